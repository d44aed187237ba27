/- Digits to the base 2^32: a number's own, and what a list of digits is worth. Plain Lean, no program. Natural numbers in the program's memory: a slice of digits that is only read, and a row of digits that the call owns. No statement is proved here. The borrow of a difference of 32 bits, as the library's text reckons it. How many bits a number has: by its digits. Plain Lean, no program. Comparing numbers by their digits. Plain Lean, no program. Sums by digits. Plain Lean, no program. Differences by digits. Plain Lean, no program. Natural numbers: cut (no noughts at the end) and Of, by walks. Natural numbers: Of (a number of 64 bits), by a walk. -/
import Derived.Test.YtkffcclalncgdaaProg
import Derived.Below
import Derived.OwnWalk
import Derived.OneCell
import Derived.WalkKit
import Derived.KernelRfl
import Derived.Deep.LoopGhost
import Derived.BigQuiet
import Derived.Deep.QuietTactic
import Derived.Laws.CopyOwn
import Derived.Laws.OwnMore
import Derived.Laws.MakeOwn
import Derived.Laws.Rows
import Derived.Laws.BitsLemmas
import Derived.RowKit
import Derived.RowKit3
import Derived.Lib.BitFns
import Derived.WalkMore
section
set_option linter.unusedVariables false
set_option linter.unusedSimpArgs false
namespace Go.Proofs.Ytkffcclalncgdaa.Dg
set_option maxRecDepth 10000
def val : List Nat → Nat
 | [] => 0
 | x :: t => x + 4294967296 * val t
def ok (l : List Nat) : Prop := ∀ x ∈ l, x < 4294967296
def dg (n : Nat) : List Nat := if _h : n = 0 then [] else n % 4294967296 :: dg (n / 4294967296)
termination_by n
decreasing_by exact Nat.div_lt_self (by omega) (by omega)
theorem dg_zero : dg 0 = [] := by rw [dg, dif_pos rfl]
theorem dg_pos {n : Nat} (h : n ≠ 0) : dg n = n % 4294967296 :: dg (n / 4294967296) := by rw [dg, dif_neg h]
theorem val_dg : ∀ N n : Nat, n ≤ N → val (dg n) = n := by
 intro N
 induction N with
 | zero => intro n h; have : n = 0 := by omega
           subst this; rw [dg_zero]; rfl
 | succ N ih =>
  intro n h
  by_cases h0 : n = 0
  ·subst h0; rw [dg_zero]; rfl
  ·rw [dg_pos h0, val, ih _ (by omega)]; omega
theorem val_dg' (n : Nat) : val (dg n) = n := val_dg n n (Nat.le_refl _)
theorem dg_ok : ∀ N n : Nat, n ≤ N → ok (dg n) := by
 intro N
 induction N with
 | zero => intro n h x hx; have : n = 0 := by omega
           subst this; rw [dg_zero] at hx; cases hx
 | succ N ih =>
  intro n h x hx
  by_cases h0 : n = 0
  ·subst h0; rw [dg_zero] at hx; cases hx
  ·rw [dg_pos h0] at hx
   rcases List.mem_cons.1 hx with e | e
   ·omega
   ·exact ih _ (by omega) x e
theorem dg_ok' (n : Nat) : ok (dg n) := dg_ok n n (Nat.le_refl _)
theorem val_append : ∀ a b : List Nat, val (a ++ b) = val a + 4294967296 ^ a.length * val b
 | [], b => by simp [val]
 | x :: t, b => by
  rw [List.cons_append, val, val_append t b, val, List.length_cons, Nat.pow_succ, Nat.mul_add, ← Nat.mul_assoc, Nat.mul_comm 4294967296 (4294967296 ^ t.length), Nat.add_assoc]
theorem ok_take {l : List Nat} (h : ok l) (n : Nat) : ok (l.take n) := fun x hx => h x (List.mem_of_mem_take hx)
theorem ok_drop {l : List Nat} (h : ok l) (n : Nat) : ok (l.drop n) := fun x hx => h x (List.mem_of_mem_drop hx)
theorem val_lt : ∀ {l : List Nat}, ok l → val l < 4294967296 ^ l.length
 | [], _ => by simp [val]
 | x :: t, h => by
  have h1 := val_lt (l := t) (fun y hy => h y (List.mem_cons_of_mem _ hy))
  have h2 := h x List.mem_cons_self
  rw [val, List.length_cons, Nat.pow_succ]
  have : 4294967296 * (val t + 1) ≤ 4294967296 * 4294967296 ^ t.length := Nat.mul_le_mul_left _ h1
  rw [Nat.mul_comm (4294967296 ^ t.length)]; omega
theorem val_zero : ∀ {l : List Nat}, val l = 0 → ∀ x ∈ l, x = 0
 | [], _, x, hx => by cases hx
 | y :: t, h, x, hx => by
  rw [val] at h
  rcases List.mem_cons.1 hx with e | e
  ·omega
  ·exact val_zero (l := t) (by omega) x e
theorem dg_val : ∀ {l : List Nat}, ok l → (∀ h : l ≠ [], l.getLast h ≠ 0) → dg (val l) = l
 | [], _, _ => by rw [val, dg_zero]
 | x :: t, h, hl => by
  have h2 := h x List.mem_cons_self
  have ht : dg (val t) = t := dg_val (l := t) (fun y hy => h y (List.mem_cons_of_mem _ hy)) (fun ne => by
   have := hl (by simp); rwa [List.getLast_cons ne] at this)
  have n0 : val (x :: t) ≠ 0 := fun e => by
   have := hl (by simp)
   exact this (val_zero e _ (List.getLast_mem _))
  rw [dg_pos n0, val]
  rw [show (x + 4294967296 * val t) % 4294967296 = x by omega, show (x + 4294967296 * val t) / 4294967296 = val t by omega, ht]
theorem dg_cut {l : List Nat} (h : ok l) (j : Nat) (hj : j ≤ l.length) (e : val (l.take j) = val l) (z : ∀ h : j - 1 < l.length, 0 < j → l[j - 1] ≠ 0) : dg (val l) = l.take j := by
 rw [← e]
 refine dg_val (ok_take h j) fun ne => ?_
 have j0 : 0 < j := by
  rcases Nat.eq_zero_or_pos j with q | q
  ·subst q; simp at ne
  ·exact q
 have len : (l.take j).length = j := by rw [List.length_take]; omega
 rw [List.getLast_eq_getElem]
 simp only [len, List.getElem_take]
 exact z (by omega) j0
theorem take_zero {l : List Nat} (j : Nat) (hj : j < l.length) (h : l[j] = 0) : val (l.take (j + 1)) = val (l.take j) := by
 rw [List.take_succ_eq_append_getElem hj, val_append, h]; simp [val]
theorem val_take {l : List Nat} (j : Nat) (hj : j < l.length) : val (l.take (j + 1)) = val (l.take j) + 4294967296 ^ j * l[j] := by
 rw [List.take_succ_eq_append_getElem hj, val_append, List.length_take, Nat.min_eq_left (by omega)]; simp [val]
theorem val_split {l : List Nat} (j : Nat) : val l = val (l.take j) + 4294967296 ^ (l.take j).length * val (l.drop j) := by
 rw [← val_append, List.take_append_drop]
theorem dg_len : ∀ k n : Nat, n < 4294967296 ^ k → (dg n).length ≤ k := by
 intro k
 induction k with
 | zero => intro n h; have : n = 0 := by simpa using h
           subst this; rw [dg_zero]; simp
 | succ k ih =>
  intro n h
  by_cases h0 : n = 0
  ·subst h0; rw [dg_zero]; simp
  ·rw [dg_pos h0, List.length_cons]
   have : n / 4294967296 < 4294967296 ^ k := by
    rw [Nat.pow_succ] at h
    exact Nat.div_lt_of_lt_mul (by rw [Nat.mul_comm]; exact h)
   have := ih _ this
   omega
theorem dg_nil {n : Nat} : dg n = [] ↔ n = 0 := ⟨fun h => by have := val_dg' n; rw [h] at this; exact this.symm, fun h => by rw [h, dg_zero]⟩
end Go.Proofs.Ytkffcclalncgdaa.Dg
end
section
set_option linter.unusedVariables false
set_option linter.unusedSimpArgs false
namespace Go.Proofs.Ytkffcclalncgdaa.Nv
open Go Go.RowKit Dg
theorem drewN_below {B : Nat} {a w : World} (h : Below B a w) (n : Nat) : Below B a (w.drewN n) := ⟨h.os, h.tape, h.output, h.size, h.block⟩
structure As (p : Prop) : Prop where mk :: (out : p)
theorem info_u32 : (Try.prog.info? 86).map (fun i => (i.zero, i.size, i.bytes)) = some (some (.int .u32 0), 1, 4) := by kernel_rfl
def us (l : List Nat) : List Value := l.map fun (x : Nat) => .int .u32 (x : Int)
theorem us_len (l : List Nat) : (us l).length = l.length := by simp [us]
theorem us_one (l : List Nat) : ∀ u ∈ us l, u.oneCell' = true := by
 intro u hu
 obtain ⟨x, _, rfl⟩ := List.mem_map.1 hu
 rfl
theorem us_app (a b : List Nat) : us (a ++ b) = us a ++ us b := List.map_append
theorem us_set (l : List Nat) (j x : Nat) : us (l.set j x) = (us l).set j (.int .u32 (x : Int)) := List.map_set
theorem add_block (a : Addr) (j : Nat) : (a.add j).block = a.block := by unfold Addr.add; split <;> rfl
structure Rd (w : World) (A : Option Addr) (l : List Nat) : Prop where
 len : l.length ≤ 1099511627776
 at_ : 0 < l.length → ∃ ad, A = some ad ∧ ∀ (j x : Nat), l[j]? = some x → w.cell? (ad.add j) = some (.int .u32 (x : Int))
theorem Rd.below {w w' : World} {A : Option Addr} {l : List Nat} (h : Rd w A l) (hb : Below w.heap.size w w') : Rd w' A l := ⟨h.len, fun hl => by
 obtain ⟨ad, e, hc⟩ := h.at_ hl
 exact ⟨ad, e, fun j x hj => by
  have := hc j x hj
  rw [hb.cell (World.block_lt_of_cell? w _ this)]; exact this⟩⟩
theorem Rd.drew {w : World} {A : Option Addr} {l : List Nat} (h : Rd w A l) : Rd w.drew A l := h.below (Below.refl _ _).drew
theorem Rd.drewN {w : World} {A : Option Addr} {l : List Nat} (h : Rd w A l) (n : Nat) : Rd (w.drewN n) A l := h.below (drewN_below (Below.refl _ _) n)
theorem Rd.nil (w : World) (A : Option Addr) : Rd w A [] := ⟨by simp, fun h => by simp at h⟩
theorem Rd.take {w : World} {A : Option Addr} {l : List Nat} (h : Rd w A l) (n : Nat) : Rd w A (l.take n) := ⟨by have := h.len; rw [List.length_take]; omega, fun hl => by
 obtain ⟨ad, e, hc⟩ := h.at_ (by rw [List.length_take] at hl; omega)
 exact ⟨ad, e, fun j x hj => hc j x (by
  rw [List.getElem?_take] at hj
  split at hj
  ·exact hj
  ·cases hj)⟩⟩
theorem Rd.get {w : World} {A : Option Addr} {l : List Nat} (h : Rd w A l) {j : Nat} (hj : j < l.length) : ∃ ad, A = some ad ∧ w.cell? (ad.add j) = some (.int .u32 (l[j] : Int)) := by
 obtain ⟨ad, e, hc⟩ := h.at_ (by omega)
 exact ⟨ad, e, hc j _ (List.getElem?_eq_getElem hj)⟩
theorem Rd.lit (w : World) (l : List Nat) (t : TypeId) (hl : l.length ≤ 1099511627776) : Rd (w.alloc (.cells (us l).toArray t)) (some ⟨w.heap.size, 0, none⟩) l := ⟨hl, fun _ => ⟨_, rfl, fun j x hj => by
 rw [Addr.add_lit, Nat.zero_add, cell_of_row _ _ _ _ _ _ (heap_alloc_new w _)]
 simp [us, hj]⟩⟩
def Num (w : World) (v : Value) (n : Nat) : Prop := ∃ A c, v = .slice A ((dg n).length : Nat) c ∧ (dg n).length ≤ c ∧ Rd w A (dg n)
theorem Num.below {w w' : World} {v : Value} {n : Nat} (h : Num w v n) (hb : Below w.heap.size w w') : Num w' v n := by
 obtain ⟨A, c, e, hc, hr⟩ := h
 exact ⟨A, c, e, hc, hr.below hb⟩
theorem Num.zero (w : World) : Num w (.slice none 0 0) 0 := ⟨none, 0, by rw [dg_zero]; rfl, by rw [dg_zero]; exact Nat.le_refl _, by rw [dg_zero]; exact Rd.nil _ _⟩
def Row (w : World) (base g c : Nat) (l : List Nat) : Prop := w.ownsRow base 86 1 (.slice (some ⟨g, 0, none⟩) l.length c) l.length (us l)
theorem grown_of_below {w w' : World} (hb : Below w.heap.size w w') (row : Option Nat) : w.grownBy w' row := ⟨hb.os, hb.tape, hb.output, hb.size, fun k hk _ => hb.block k hk⟩
theorem Row.below {w w' : World} {base g c : Nat} {l : List Nat} (h : Row w base g c l) (hb : Below w.heap.size w w') : Row w' base g c l :=
 World.ownsRow.kept h (grown_of_below hb none) (.inr (by simp [Value.ownBlock]))
theorem Row.drew {w : World} {base g c : Nat} {l : List Nat} (h : Row w base g c l) : Row w.drew base g c l := h
theorem Row.block {w : World} {base g c : Nat} {l : List Nat} (h : Row w base g c l) : base ≤ g ∧ l.length ≤ c ∧ ∃ cur : Array Value, w.heap[g]? = some (.cells cur 86 (0, 0)) := by
 rcases h.2 with ⟨e, _⟩ | ⟨g', c', cur, e, hb, hg, hn, _⟩
 ·cases e
 ·cases e; exact ⟨hb, hn, cur, hg⟩
theorem Row.lt {w : World} {base g c : Nat} {l : List Nat} (h : Row w base g c l) : g < w.heap.size := by
 obtain ⟨_, _, _, e⟩ := h.block
 exact lt_of_block e
theorem Row.get {w : World} {base g c : Nat} {l : List Nat} (h : Row w base g c l) {j : Nat} (hj : j < l.length) : w.cell? ⟨g, j, none⟩ = some (.int .u32 (l[j] : Int)) ∧ w.frozen? ⟨g, j, none⟩ = false := by
 refine ⟨?_, World.ownsRow.frozenAt h j⟩
 rw [World.ownsRow.cellAt h j (by omega), us, List.getElem?_map, List.getElem?_eq_getElem hj]; rfl
theorem Row.kept {w w' : World} {base g c r : Nat} {l : List Nat} (h : Row w base g c l) (hg : w.grownBy w' (some r)) (ne : g ≠ r) : Row w' base g c l :=
 World.ownsRow.kept h hg (.inr (by simp [Value.ownBlock]; exact ne))
theorem Row.set {w : World} {base g c : Nat} {l : List Nat} (h : Row w base g c l) (j x : Nat) : Row (w.setCell ⟨g, j, none⟩ (.int .u32 (x : Int))) base g c (l.set j x) := by
 obtain ⟨a, _⟩ := World.ownsRow.stored h j (.int .u32 (x : Int))
 unfold Row
 rw [List.length_set, us_set]; exact a
theorem Rd.set {w : World} {A : Option Addr} {l : List Nat} (h : Rd w A l) {g : Nat} (hg : ∀ ad, A = some ad → 0 < l.length → ad.block ≠ g) (j : Nat) (u : Value) : Rd (w.setCell ⟨g, j, none⟩ u) A l := ⟨h.len, fun hl => by
 obtain ⟨ad, e, hc⟩ := h.at_ hl
 exact ⟨ad, e, fun i x hi => by
  have hb := Below.heap_setCell w ⟨g, j, none⟩ u (ad.add i).block (by rw [add_block]; exact hg ad e hl)
  rw [World.cell?_of_block hb]; exact hc i x hi⟩⟩
theorem Rd.far {w : World} {A : Option Addr} {l : List Nat} (h : Rd w A l) {g : Nat} (hg : w.heap.size ≤ g) : ∀ ad, A = some ad → 0 < l.length → ad.block ≠ g := fun ad e hl => by
 obtain ⟨ad', e', hc⟩ := h.at_ hl
 rw [e] at e'
 cases e'
 have := World.block_lt_of_cell? w _ (hc 0 _ (List.getElem?_eq_getElem hl))
 have hb : (ad.add 0).block = ad.block := add_block _ _
 omega
theorem Row.read {w : World} {base g c : Nat} {l : List Nat} (h : Row w base g c l) (hl : l.length ≤ 1099511627776) : Rd w (some ⟨g, 0, none⟩) l := ⟨hl, fun _ => ⟨_, rfl, fun j x hj => by
 have lt : j < l.length := (List.getElem?_eq_some_iff.1 hj).1
 have := (h.get lt).1
 rw [(List.getElem?_eq_some_iff.1 hj).2] at this
 rw [Addr.add_lit, Nat.zero_add]; exact this⟩⟩
theorem wpList_make_lc {P : Program} (w : World) {ops : Array Oper} {rest : List Oper} {o : Oper} {a : Act} {Q : Exit → Act → World → Prop}
    (hg : o.guard = none) (l c : Operand) (t : TypeId) (hop : o.op = Op.makeSlice t l c)
    (e : TypeId) (i : TypeInfo) (z : Value) (h1 : P.underlying t = some (.slice e)) (h2 : P.info? e = some i) (h3 : i.zero = some z)
    (kl kc : IntKind) (L C : Int) (n m : Nat) (hl : a.eval l = .int kl L) (hc : a.eval c = .int kc C) (hL : L = (n : Int)) (hC : C = (m : Int)) (nm : n ≤ m) (b2 : i.bytes * m ≤ 281474976710656) (b3 : m ≤ maxLen)
    (hK : ∀ w', w'.heap[w.heap.size]? = some (.cells (madeCells z.cells (m * i.size)) e (0, 0)) → w.grownBy w' none → wpList P ops Q rest (a.put o.dst (.slice (some ⟨w.heap.size, 0, none⟩) n m)) w') :
    wpList P ops Q (o :: rest) a w := by
 refine wpList_plain hg fun K hK' => ?_
 have h63' : (m : Int) ≤ 9223372036854775807 := by
  have h := b3
  simp [maxLen] at h
  omega
 have hb' : (i.bytes : Int) * (m : Int) ≤ 281474976710656 := by
  have h : ((i.bytes * m : Nat) : Int) ≤ 281474976710656 := by omega
  rwa [Int.natCast_mul] at h
 have hr := run_make (P := P) w t e i z h1 h2 h3 kl kc n m (by omega) (by omega) hb' h63'
 simp only [Int.toNat_natCast] at hr
 subst hL
 subst hC
 unfold Oper.wp
 simp [execOp, hop, hl, hc, hr, Result.andThen]
 exact hK' _ _ (hK _ (heap_alloc_new w _) (World.grownBy_alloc w _ none))
theorem Row.made {w w2 : World} {i : TypeInfo} {n base : Nat} (hz1 : i.size = 1) (hb : base ≤ w.heap.size) (hn : n ≤ 1099511627776)
    (h9 : w2.heap[w.heap.size]? = some (.cells (madeCells (Value.int .u32 0).cells (n * i.size)) 86 (0, 0))) : Row w2 base w.heap.size n (List.replicate n 0) := by
 have e : (madeCells (Value.int .u32 0).cells (n * i.size)) = (us (List.replicate n 0)).toArray := by
  apply Array.toList_inj.1
  rw [hz1, Nat.mul_one, show (Value.int .u32 0).cells = #[Value.int .u32 0] from rfl, toList_madeCells_one]
  simp [us]
 rw [e] at h9
 refine ⟨by simp [us], .inr ⟨w.heap.size, n, _, by simp, hb, h9, by simp, by unfold maxLen; omega, by simp [us], by simp [us]⟩⟩
theorem Rd.ne {w : World} {A : Option Addr} {l : List Nat} (h : Rd w A l) {g : Nat} {v : Value} {t : TypeId} (hg : w.heap[g]? = some (.cells #[v] t (0, 0))) (hv : ∀ x, v ≠ .int .u32 x) : ∀ ad, A = some ad → 0 < l.length → ad.block ≠ g := fun ad e hl eg => by
 obtain ⟨ad', e', hc⟩ := h.at_ hl
 rw [e] at e'
 cases e'
 have h1 := hc 0 _ (List.getElem?_eq_getElem hl)
 have hb : (ad.add 0).block = ad.block := add_block _ _
 have h2 : w.heap[(ad.add 0).block]? = some (.cells #[v] t (0, 0)) := by rw [hb, eg]; exact hg
 simp only [World.cell?, h2] at h1
 split at h1
 ·cases h1
 ·rw [Array.getElem?_eq_some_iff] at h1
  obtain ⟨hlt, h3⟩ := h1
  have z : (ad.add 0).off = 0 := by simpa using hlt
  simp only [z] at h3
  exact hv _ h3
theorem Rd.put {w : World} {A : Option Addr} {l : List Nat} (h : Rd w A l) {g : Nat} {v : Value} {t : TypeId} (hg : w.heap[g]? = some (.cells #[v] t (0, 0))) (hv : ∀ x, v ≠ .int .u32 x) (u : Value) : Rd (w.setCell ⟨g, 0, none⟩ u) A l := h.set (h.ne hg hv) 0 u
theorem blk2 {w w2 : World} {o o' : Obj} (hb : Below ((w.alloc o).alloc o').heap.size ((w.alloc o).alloc o') w2) : w2.heap[w.heap.size]? = some o :=
 (hb.block w.heap.size (by simp; omega)).trans ((Below.heap_alloc _ _ _ (by simp)).trans (heap_alloc_new w o))
theorem bel1 {w w2 : World} {o : Obj} (hb : Below (w.alloc o).heap.size (w.alloc o) w2) : Below w.heap.size w w2 := ((Below.refl _ w).alloc (Nat.le_refl _) o).trans (hb.mono (by simp))
theorem bel2 {w w2 : World} {o o' : Obj} (hb : Below ((w.alloc o).alloc o').heap.size ((w.alloc o).alloc o') w2) : Below w.heap.size w w2 := bel1 (bel1 hb)
theorem ret_nat {fn : Func} {p : Tmp} (h : fn.results = #[.cell p 52]) {tmps : Array Value} {w : World} (g : Nat) (v : Value) (hp : tmps.getD p undef = .pointer (some ⟨g, 0, none⟩)) (hg : w.heap[g]? = some (.cells #[v] 52 (0, 0))) :
    (results fn tmps).run Try.prog w = .ok (.agg #[v]) w := results_cell_row h tmps w g 52 #[v] (0, 0) _ hp hg Try.underlying52 rfl (by kernel_rfl)
theorem ret_nat2 {fn : Func} {p q : Tmp} (h : fn.results = #[.cell p 52, .tmp q]) {tmps : Array Value} {w : World} (g : Nat) (v u : Value) (hp : tmps.getD p undef = .pointer (some ⟨g, 0, none⟩)) (hq : tmps.getD q undef = u) (hg : w.heap[g]? = some (.cells #[v] 52 (0, 0))) :
    (results fn tmps).run Try.prog w = .ok (.tuple #[.agg #[v], u]) w := by
 have hp' : tmps[p]?.getD undef = .pointer (some ⟨g, 0, none⟩) := by simpa using hp
 have hq' : tmps[q]?.getD undef = u := by simpa using hq
 simp [results, h, hp', hq', asAddr, run_loadVar_row w g 52 52 #[v] (0, 0) _ hg Try.underlying52 rfl (by kernel_rfl)]
theorem blkB {w w2 : World} {o o' : Obj} (hb : Below ((w.alloc o).alloc o').heap.size ((w.alloc o).alloc o') w2) : w2.heap[w.heap.size + 1]? = some o' :=
 (hb.block (w.heap.size + 1) (by simp)).trans (by have := heap_alloc_new (w.alloc o) o'; simpa using this)
theorem blk3 {w w2 : World} {o1 o2 o3 : Obj} (g : (((w.alloc o1).alloc o2).alloc o3).grownBy w2 none) :
    w2.heap[w.heap.size]? = some o1 ∧ w2.heap[w.heap.size + 1]? = some o2 ∧ w2.heap[w.heap.size + 1 + 1]? = some o3 ∧ Below w.heap.size w w2 := by
 have b1 : Below w.heap.size w (w.alloc o1) := (Below.refl _ w).alloc (Nat.le_refl _) o1
 have b2 : Below w.heap.size w ((w.alloc o1).alloc o2) := b1.alloc (by simp) o2
 have b3 : Below w.heap.size w (((w.alloc o1).alloc o2).alloc o3) := b2.alloc (by simp; omega) o3
 have s1 : (w.alloc o1).heap.size = w.heap.size + 1 := by simp
 have s2 : ((w.alloc o1).alloc o2).heap.size = w.heap.size + 1 + 1 := by simp
 have s3 : (((w.alloc o1).alloc o2).alloc o3).heap.size = w.heap.size + 1 + 1 + 1 := by simp
 have h3 := heap_alloc_new ((w.alloc o1).alloc o2) o3
 have h2 := heap_alloc_new (w.alloc o1) o2
 have h1 := heap_alloc_new w o1
 rw [s2] at h3
 rw [s1] at h2
 refine ⟨?_, ?_, ?_, b3.grown g (by omega) (by simp)⟩
 ·rw [g.block _ (by omega) (by simp), Below.heap_alloc _ _ _ (by omega), Below.heap_alloc _ _ _ (by omega)]; exact h1
 ·rw [g.block _ (by omega) (by simp), Below.heap_alloc _ _ _ (by omega)]; exact h2
 ·rw [g.block _ (by omega) (by simp)]; exact h3
theorem made_cells {w2 : World} {i : TypeInfo} {g n : Nat} (hz1 : i.size = 1) (h9 : w2.heap[g]? = some (.cells (madeCells (Value.int .u32 0).cells (n * i.size)) 86 (0, 0))) :
    w2.heap[g]? = some (.cells (us (List.replicate n 0)).toArray 86 (0, 0)) := by
 have e : (madeCells (Value.int .u32 0).cells (n * i.size)) = (us (List.replicate n 0)).toArray := by
  apply Array.toList_inj.1
  rw [hz1, Nat.mul_one, show (Value.int .u32 0).cells = #[Value.int .u32 0] from rfl, toList_madeCells_one]
  simp [us]
 rw [e] at h9; exact h9
theorem Row.of_cells {w : World} {base g c : Nat} {l rest : List Nat} (hb : base ≤ g) (h : w.heap[g]? = some (.cells (us (l ++ rest)).toArray 86 (0, 0))) (hc : (l ++ rest).length = c) (hm : c ≤ 1099511627776) : Row w base g c l := by
 refine ⟨by simp [us], .inr ⟨g, c, _, rfl, hb, h, by simp at hc; omega, by unfold maxLen; omega, by simp [us]; simpa using hc, ?_⟩⟩
 rw [us_app]; simp [us]
theorem Row.next {w : World} {base g c j x : Nat} {o t : List Nat} (h : Row w base g c (o ++ t.drop j)) (ho : o.length = j) (hj : j < t.length) : Row (w.setCell ⟨g, j, none⟩ (.int .u32 (x : Int))) base g c ((o ++ [x]) ++ t.drop (j + 1)) := by
 have := h.set j x
 have e : (o ++ t.drop j).set j x = (o ++ [x]) ++ t.drop (j + 1) := by
  rw [List.set_append_right _ _ (by omega), ho, Nat.sub_self, List.drop_eq_getElem_cons hj, List.set_cons_zero]; simp
 rw [e] at this; exact this
end Go.Proofs.Ytkffcclalncgdaa.Nv
end
section
set_option linter.unusedVariables false
set_option linter.unusedSimpArgs false
namespace Go.Proofs.Ytkffcclalncgdaa.Nv
open Go
def brw (x y b : Nat) : Nat := if x < y + b then 1 else 0
def dif (x y b : Nat) : Nat := (x + 8589934592 - y - b) % 4294967296
theorem top (n : Nat) (h : n < 4294967296) : n / 2147483648 = (n.testBit 31).toNat := by
 rw [Nat.testBit_eq_decide_div_mod_eq]
 by_cases c : n / 2 ^ 31 % 2 = 1
 ·rw [decide_eq_true c]; simp only [Bool.toNat_true]; omega
 ·rw [decide_eq_false c]; simp only [Bool.toNat_false]; omega
theorem tb (n : Nat) (h : n < 4294967296) : n.testBit 31 = decide (2147483648 ≤ n) := by
 rw [Nat.testBit_eq_decide_div_mod_eq]
 by_cases c : 2147483648 ≤ n
 ·rw [decide_eq_true c, decide_eq_true (by omega)]
 ·rw [decide_eq_false c, decide_eq_false (by omega)]
end Go.Proofs.Ytkffcclalncgdaa.Nv
end
section
set_option linter.unusedVariables false
set_option linter.unusedSimpArgs false
namespace Go.Proofs.Ytkffcclalncgdaa.Dg
open Go
set_option maxRecDepth 10000
def bl (n : Nat) : Nat := if n = 0 then 0 else n.log2 + 1
theorem bl_le {n k : Nat} : bl n ≤ k ↔ n < 2 ^ k := by
 unfold bl
 by_cases h : n = 0
 ·subst h; rw [if_pos rfl]; exact ⟨fun _ => Nat.pow_pos (by omega), fun _ => Nat.zero_le _⟩
 ·rw [if_neg h, ← Nat.log2_lt h]; omega
theorem bl_eq {n b : Nat} (h : ∀ k, b ≤ k ↔ n < 2 ^ k) : bl n = b := by
 have h1 := bl_le.2 ((h b).1 (Nat.le_refl _))
 have h2 := (h (bl n)).2 (bl_le.1 (Nat.le_refl _))
 omega
theorem bl_zero {n : Nat} : bl n = 0 ↔ n = 0 := by
 unfold bl
 by_cases h : n = 0
 ·simp [h]
 ·rw [if_neg h]; omega
theorem bl_lt (n : Nat) : n < 2 ^ bl n := bl_le.1 (Nat.le_refl _)
theorem bl_ge {n : Nat} (h : n ≠ 0) : 2 ^ (bl n - 1) ≤ n := by
 rcases Nat.lt_or_ge n (2 ^ (bl n - 1)) with l | l
 ·have := bl_le.2 l
  have : bl n ≠ 0 := fun e => h (bl_zero.1 e)
  omega
 ·exact l
theorem lib_bl : ∀ N x : Nat, x ≤ N → x < 18446744073709551616 → Lib.bitLen x = bl x := by
 intro N
 induction N with
 | zero => intro x h _; have : x = 0 := by omega
           subst this; rfl
 | succ N ih =>
  intro x h hx
  by_cases h0 : x = 0
  ·subst h0; rfl
  ·rw [Lib.bitLen_half x h0 hx, ih (x / 2) (by omega) (by omega)]
   refine (bl_eq fun k => ?_).symm
   cases k with
   | zero => constructor
             ·intro h; omega
             ·intro h; simp at h; omega
   | succ k =>
    have := bl_le (n := x / 2) (k := k)
    rw [Nat.pow_succ]
    constructor
    ·intro h; have := this.1 (by omega); omega
    ·intro h; have := this.2 (by omega); omega
theorem bl_digits {r top m : Nat} (hr : r < 4294967296 ^ m) (ht : top ≠ 0) : bl (r + 4294967296 ^ m * top) = 32 * m + bl top := by
 have e : 4294967296 ^ m = 2 ^ (32 * m) := by rw [show (4294967296 : Nat) = 2 ^ 32 from rfl, ← Nat.pow_mul]
 rw [e] at hr ⊢
 refine bl_eq fun k => ?_
 have g := bl_ge ht
 have l := bl_lt top
 have b0 : bl top ≠ 0 := fun h => ht (bl_zero.1 h)
 constructor
 ·intro h
  have h1 : 2 ^ (32 * m) * (top + 1) ≤ 2 ^ (32 * m) * 2 ^ bl top := Nat.mul_le_mul_left _ l
  rw [← Nat.pow_add] at h1
  have h2 : 2 ^ (32 * m + bl top) ≤ 2 ^ k := Nat.pow_le_pow_right (by omega) h
  rw [Nat.mul_add] at h1; omega
 ·intro h
  rcases Nat.lt_or_ge k (32 * m + bl top) with q | q
  ·exfalso
   have h1 : 2 ^ (32 * m) * 2 ^ (bl top - 1) ≤ 2 ^ (32 * m) * top := Nat.mul_le_mul_left _ g
   rw [← Nat.pow_add] at h1
   have h2 : 2 ^ k ≤ 2 ^ (32 * m + (bl top - 1)) := Nat.pow_le_pow_right (by omega) (by omega)
   omega
  ·exact q
theorem last_ne {n : Nat} : ∀ h : dg n ≠ [], (dg n).getLast h ≠ 0 := by
 have : ∀ N n : Nat, n ≤ N → ∀ h : dg n ≠ [], (dg n).getLast h ≠ 0 := by
  intro N
  induction N with
  | zero => intro n hn h; have : n = 0 := by omega
            subst this; exact absurd dg_zero h
  | succ N ih =>
   intro n hn h
   have n0 : n ≠ 0 := fun e => h (by rw [e, dg_zero])
   have e := dg_pos n0
   by_cases q : n / 4294967296 = 0
   ·simp only [e, q, dg_zero, List.getLast_singleton]; omega
   ·have ne : dg (n / 4294967296) ≠ [] := fun e' => q (dg_nil.1 e')
    have := ih (n / 4294967296) (by omega) ne
    simp only [e]
    rw [List.getLast_cons ne]; exact this
 exact this n n (Nat.le_refl _)
theorem bl_dg {n : Nat} (h : 0 < (dg n).length) : bl n = 32 * ((dg n).length - 1) + bl ((dg n)[(dg n).length - 1]'(by omega)) := by
 have ne : dg n ≠ [] := List.length_pos_iff.1 h
 have s := val_take (l := dg n) ((dg n).length - 1) (by omega)
 rw [show (dg n).length - 1 + 1 = (dg n).length by omega, List.take_length, val_dg'] at s
 have r := val_lt (ok_take (dg_ok' n) ((dg n).length - 1))
 rw [List.length_take, Nat.min_eq_left (by omega)] at r
 have t := last_ne ne
 rw [List.getLast_eq_getElem] at t
 conv => lhs; rw [s]
 exact bl_digits r t
end Go.Proofs.Ytkffcclalncgdaa.Dg
end
section
set_option linter.unusedVariables false
set_option linter.unusedSimpArgs false
namespace Go.Proofs.Ytkffcclalncgdaa.Dg
set_option maxRecDepth 10000
theorem val_at {l : List Nat} (i : Nat) (hi : i < l.length) : val l = val (l.take i) + 4294967296 ^ i * (l[i] + 4294967296 * val (l.drop (i + 1))) := by
 have := val_split (l := l) i
 rw [List.drop_eq_getElem_cons hi, val, List.length_take, Nat.min_eq_left (by omega)] at this
 exact this
end Go.Proofs.Ytkffcclalncgdaa.Dg
end
section
set_option linter.unusedVariables false
set_option linter.unusedSimpArgs false
namespace Go.Proofs.Ytkffcclalncgdaa.Dg
set_option maxRecDepth 10000
theorem len_of_bl {n k : Nat} (h : bl n ≤ 32 * k) : (dg n).length ≤ k := dg_len k n (by rw [show (4294967296 : Nat) = 2 ^ 32 from rfl, ← Nat.pow_mul]; exact bl_le.1 h)
theorem len128 {n : Nat} (h : bl n ≤ 4096) : (dg n).length ≤ 128 := len_of_bl (k := 128) (by omega)
def at0 (l : List Nat) (j : Nat) : Nat := l.getD j 0
theorem at0_lt {l : List Nat} {j : Nat} (h : j < l.length) : at0 l j = l[j] := by simp [at0, h]
theorem at0_ge {l : List Nat} {j : Nat} (h : l.length ≤ j) : at0 l j = 0 := by
 simp [at0, List.getD_eq_getElem?_getD, List.getElem?_eq_none h]
theorem at0_ok {l : List Nat} (h : ok l) (j : Nat) : at0 l j < 4294967296 := by
 by_cases hj : j < l.length
 ·rw [at0_lt hj]; exact h _ (List.getElem_mem hj)
 ·rw [at0_ge (by omega)]; omega
theorem val_take0 (l : List Nat) (j : Nat) : val (l.take (j + 1)) = val (l.take j) + 4294967296 ^ j * at0 l j := by
 by_cases hj : j < l.length
 ·rw [val_take j hj, at0_lt hj]
 ·rw [at0_ge (by omega), Nat.mul_zero, List.take_of_length_le (by omega), List.take_of_length_le (by omega)]; rfl
theorem val_snoc (o : List Nat) (x : Nat) : val (o ++ [x]) = val o + 4294967296 ^ o.length * x := by rw [val_append]; simp [val]
theorem ok_snoc {o : List Nat} (h : ok o) {x : Nat} (hx : x < 4294967296) : ok (o ++ [x]) := fun y hy => by
 rcases List.mem_append.1 hy with e | e
 ·exact h y e
 ·rw [List.mem_singleton] at e; omega
structure SumS (lp lq : List Nat) (j cy : Nat) (o : List Nat) : Prop where
 len : o.length = j
 ok : ok o
 c1 : cy ≤ 1
 eq : val o + 4294967296 ^ j * cy = val (lp.take j) + val (lq.take j)
theorem SumS.next {lp lq : List Nat} {j cy : Nat} {o : List Nat} (h : SumS lp lq j cy o) (hp : Dg.ok lp) (hq : Dg.ok lq) :
    SumS lp lq (j + 1) ((cy + at0 lp j + at0 lq j) / 4294967296) (o ++ [(cy + at0 lp j + at0 lq j) % 4294967296]) := by
 have x := at0_ok hp j
 have y := at0_ok hq j
 have c := h.c1
 refine ⟨by simp [h.len], ok_snoc h.ok (by omega), by omega, ?_⟩
 rw [val_snoc, h.len, val_take0, val_take0, Nat.pow_succ, Nat.mul_assoc, Nat.add_assoc, ← Nat.mul_add, Nat.mod_add_div]
 have e := h.eq
 rw [Nat.mul_add, Nat.mul_add]
 omega
theorem SumS.stop {a b n cy : Nat} {o : List Nat} (h : SumS (dg a ++ [0]) (dg b) (n + 1) cy o) (ha : (dg a).length = n) (hb : (dg b).length ≤ n) : val o = a + b := by
 have e := h.eq
 rw [List.take_of_length_le (by simp; omega), List.take_of_length_le (by omega), val_snoc, val_dg', val_dg', Nat.mul_zero, Nat.add_zero] at e
 have va := val_lt (dg_ok' a)
 have vb := val_lt (dg_ok' b)
 rw [val_dg', ha] at va
 rw [val_dg'] at vb
 have vb' : 4294967296 ^ (dg b).length ≤ 4294967296 ^ n := Nat.pow_le_pow_right (by omega) hb
 rw [Nat.pow_succ, Nat.mul_assoc] at e
 have c : cy = 0 := by
  rcases Nat.eq_zero_or_pos cy with z | z
  ·exact z
  ·have : 4294967296 ^ n * 4294967296 ≤ 4294967296 ^ n * (4294967296 * cy) := Nat.mul_le_mul_left _ (by omega)
   omega
 rw [c] at e; simp at e; exact e
end Go.Proofs.Ytkffcclalncgdaa.Dg
end
section
set_option linter.unusedVariables false
set_option linter.unusedSimpArgs false
namespace Go.Proofs.Ytkffcclalncgdaa.Dg
open Go.Proofs.Ytkffcclalncgdaa.Nv
set_option maxRecDepth 10000
theorem dif_eq {x y b : Nat} (hx : x < 4294967296) (hy : y < 4294967296) (hb : b ≤ 1) : dif x y b + y + b = x + 4294967296 * brw x y b ∧ dif x y b < 4294967296 ∧ brw x y b ≤ 1 := by
 unfold dif brw
 by_cases c : x < y + b
 ·rw [if_pos c]; omega
 ·rw [if_neg c]; omega
structure SubS (lp lq : List Nat) (j b : Nat) (o : List Nat) : Prop where
 len : o.length = j
 ok : ok o
 b1 : b ≤ 1
 eq : val o + val (lq.take j) = val (lp.take j) + 4294967296 ^ j * b
theorem SubS.next {lp lq : List Nat} {j b : Nat} {o : List Nat} (h : SubS lp lq j b o) (hp : Dg.ok lp) (hq : Dg.ok lq) :
    SubS lp lq (j + 1) (brw (at0 lp j) (at0 lq j) b) (o ++ [dif (at0 lp j) (at0 lq j) b]) := by
 obtain ⟨d1, d2, d3⟩ := dif_eq (at0_ok hp j) (at0_ok hq j) h.b1
 refine ⟨by simp [h.len], ok_snoc h.ok d2, d3, ?_⟩
 have e := h.eq
 rw [val_snoc, h.len, val_take0, val_take0, Nat.pow_succ, Nat.mul_assoc]
 have k : 4294967296 ^ j * dif (at0 lp j) (at0 lq j) b + 4294967296 ^ j * at0 lq j + 4294967296 ^ j * b = 4294967296 ^ j * at0 lp j + 4294967296 ^ j * (4294967296 * brw (at0 lp j) (at0 lq j) b) := by
  rw [← Nat.mul_add, ← Nat.mul_add, ← Nat.mul_add, d1]
 omega
theorem SubS.stop {lp lq : List Nat} {j : Nat} {o : List Nat} (h : SubS lp lq j 0 o) (hq : lq.length ≤ j) (hj : j ≤ lp.length) : val (o ++ lp.drop j) + val lq = val lp := by
 have e := h.eq
 rw [List.take_of_length_le hq, Nat.mul_zero, Nat.add_zero] at e
 have s := val_split (l := lp) j
 rw [List.length_take, Nat.min_eq_left hj] at s
 rw [val_append, h.len]; omega
end Go.Proofs.Ytkffcclalncgdaa.Dg
end
section
set_option linter.unusedVariables false
set_option linter.unusedSimpArgs false
namespace Go.Proofs.Ytkffcclalncgdaa.Nv
open Go Go.RowKit Dg
set_option maxRecDepth 100000 in
set_option maxHeartbeats 1600000 in
theorem cut_calls (A : Option Addr) (c : Nat) (l : List Nat) (w : World) (hr : Rd w A l) (hok : ok l) (hc : l.length ≤ c) :
    Calls Try.prog 49 #[.slice A (l.length : Nat) c] w fun e w' => ∃ v : Value, e = .returned (.agg #[v]) ∧ Num w' v (val l) ∧ Below w.heap.size w w' := by
 have HB := As.mk (Below.refl w.heap.size w)
 have ll := hr.len
 have HR := As.mk hr
 clear hr
 go_enter Try.func49, Try.ntmps49
 go_wp2
 have hr1 : Rd (w.alloc (.cells #[.slice none 0 0] 52)) A l := HR.out.below ((Below.refl _ w).alloc (Nat.le_refl _) _)
 have HR1 := As.mk hr1
 clear hr1
 go_loopg [3] l.length (fun gk v3 wr => ∃ (j : Nat), v3 = .int .i64 (j : Int) ∧ wr = w.alloc (.cells #[.slice none 0 0] 52) ∧ As (j ≤ gk ∧ j ≤ l.length ∧ val (l.take j) = val l))
 case atStart => exact ⟨l.length, rfl, rfl, ⟨Nat.le_refl _, Nat.le_refl _, by rw [List.take_length]⟩⟩
 case round =>
  obtain ⟨j, rfl, rfl, J⟩ := hrel
  obtain ⟨jg, jl, _⟩ := J.out
  by_cases j0 : j = 0
  ·subst j0
   have ev : As (val l = 0) := ⟨by have := J.out.2.2; simpa [val] using this.symm⟩
   go_wp2
   refine bodyPost_ret (ret_nat rfl w.heap.size (.slice A 0 0) rfl (heap_alloc_new w _)) rfl ?_
   refine ⟨.slice A 0 0, rfl, ⟨A, 0, ?_⟩, (HB.out.alloc (Nat.le_refl _) _)⟩
   rw [ev.out, dg_zero]
   exact ⟨rfl, Nat.le_refl _, Rd.nil _ _⟩
  ·obtain ⟨x, hx⟩ : ∃ x, x = l[j - 1]'(by omega) := ⟨_, rfl⟩
   obtain ⟨ad, hA, cx⟩ := HR1.out.get (j := j - 1) (by omega)
   rw [← hx] at cx
   cases hA
   have HX := As.mk hx
   clear hx
   by_cases z : x = 0
   ·subst z
    go_wp2
    go_roundg (j - 1)
    case measure => omega
    case rel =>
     refine ⟨j - 1, by simp; omega, rfl, ⟨by omega, by omega, ?_⟩⟩
     rw [← J.out.2.2, ← take_zero (j - 1) (by omega) HX.out.symm, show j - 1 + 1 = j by omega]
   ·go_wp2
    refine bodyPost_ret (ret_nat rfl w.heap.size (.slice (some ad) (j : Nat) j) rfl (heap_alloc_new w _)) rfl ?_
    refine ⟨.slice (some ad) (j : Nat) j, rfl, ⟨some ad, j, ?_⟩, (HB.out.alloc (Nat.le_refl _) _)⟩
    have e : dg (val l) = l.take j := dg_cut hok j jl J.out.2.2 (fun _ _ => by rw [← HX.out]; exact z)
    have el : (l.take j).length = j := by rw [List.length_take]; omega
    rw [e, el]
    exact ⟨rfl, Nat.le_refl _, (HR.out.below ((Below.refl _ w).alloc (Nat.le_refl _) _)).take j⟩
end Go.Proofs.Ytkffcclalncgdaa.Nv
end
section
set_option linter.unusedVariables false
set_option linter.unusedSimpArgs false
namespace Go.Proofs.Ytkffcclalncgdaa.Nv
open Go Go.RowKit Dg
set_option maxRecDepth 100000 in
set_option maxHeartbeats 1600000 in
theorem of_calls (n : Nat) (hn : n < 18446744073709551616) (w : World) :
    Calls Try.prog 29 #[.int .u64 (n : Int)] w fun e w' => ∃ v : Value, e = .returned (.agg #[v]) ∧ Num w' v n ∧ Below w.heap.size w w' := by
 have HB := As.mk (Below.refl w.heap.size w)
 have hr : Rd ((w.alloc (.cells #[.slice none 0 0] 52)).alloc (.cells #[.int .u32 ((n : Int) % 4294967296), .int .u32 ((n : Int) / 4294967296)] 86)) (some ⟨w.heap.size + 1, 0, none⟩) [n % 4294967296, n / 4294967296] := by
  have := Rd.lit (w.alloc (.cells #[.slice none 0 0] 52)) [n % 4294967296, n / 4294967296] 86 (by simp)
  simpa [us] using this
 have hv : val [n % 4294967296, n / 4294967296] = n := by simp only [val]; omega
 have hk : ok [n % 4294967296, n / 4294967296] := by
  intro x hx
  simp only [List.mem_cons, List.not_mem_nil, or_false] at hx
  omega
 have HR := As.mk hr
 have HV := As.mk hv
 clear hr hv
 go_enter Try.func29, Try.ntmps29
 go_wp2_with (go_at_call 49; refine (cut_calls (some ⟨w.heap.size + 1, 0, none⟩) 2 [n % 4294967296, n / 4294967296] _ HR.out hk (Nat.le_refl _)).mono ?_; rintro e w2 ⟨v, rfl, hn2, hb2⟩; rw [HV.out] at hn2; obtain ⟨A2, c2, rfl, hc2, hr2⟩ := hn2; have R2 := As.mk hr2; have B2 := As.mk (bel2 hb2); have K2 := As.mk (blk2 hb2); have c0 := cell_of_one K2.out; have f0 := free_of_one K2.out; clear hr2 hb2)
 refine bodyPost_ret (ret_nat rfl w.heap.size _ rfl (one_setCell K2.out)) rfl ?_
 exact ⟨_, rfl, ⟨A2, c2, rfl, hc2, R2.out.put K2.out (by simp) _⟩, B2.out.setCell (Nat.le_refl _) _⟩
end Go.Proofs.Ytkffcclalncgdaa.Nv
end
