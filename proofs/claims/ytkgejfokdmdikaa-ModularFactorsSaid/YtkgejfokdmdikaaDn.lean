/- For modular.Divisors: make with a length and a capacity; what holds in its loops. -/
import Derived.Test.YtkgejfokdmdikaaFy
import Derived.Test.YtkgejfokdmdikaaSrt
import Derived.Laws.CopyOwn
namespace Go.Proofs.Ytkgejfokdmdikaa
open Go Go.RowKit Go.Proofs.YtkgejfokdmdikaaW.PrintWords Go.Proofs.YtkgejfokdmdikaaW.PrintLast Go.Proofs.YtkgejfokdmdikaaW.PrintMore

def modular_Divisors.f (a0 : Int) : Option (List Int × Int) := if a0 < 1 then some ([], 2) else if 1099511627776 < a0 then some ([], 3) else some (Fc.srt (Fc.ints (Fc.divs a0.toNat)), 0)

theorem wpList_make_lc {P : Program} (w : World) {ops : Array Oper} {rest : List Oper} {o : Oper} {a : Act} {Q : Exit → Act → World → Prop}
    (hg : o.guard = none) (l c : Operand) (t : TypeId) (hop : o.op = Op.makeSlice t l c)
    (e : TypeId) (i : TypeInfo) (z : Value) (h1 : P.underlying t = some (.slice e)) (h2 : P.info? e = some i) (h3 : i.zero = some z)
    (kl kc : IntKind) (L C : Int) (n m : Nat) (hl : a.eval l = .int kl L) (hc : a.eval c = .int kc C) (hL : L = (n : Int)) (hC : C = (m : Int)) (nm : n ≤ m) (b2 : i.bytes * m ≤ 281474976710656) (b3 : m ≤ maxLen)
    (hK : ∀ w', w'.heap[w.heap.size]? = some (.cells (madeCells z.cells (m * i.size)) e (0, 0)) → w.grownBy w' none → wpList P ops Q rest (a.put o.dst (.slice (some ⟨w.heap.size, 0, none⟩) n m)) w') :
    wpList P ops Q (o :: rest) a w := by
  refine wpList_plain hg fun K hK' => ?_
  have h63' : (m : Int) ≤ 9223372036854775807 := by
    have h := b3
    simp [maxLen] at h
    omega
  have hb' : (i.bytes : Int) * (m : Int) ≤ 281474976710656 := by
    have h : ((i.bytes * m : Nat) : Int) ≤ 281474976710656 := by omega
    rwa [Int.natCast_mul] at h
  have hr := run_make (P := P) w t e i z h1 h2 h3 kl kc n m (by omega) (by omega) hb' h63'
  simp only [Int.toNat_natCast] at hr
  subst hL
  subst hC
  unfold Oper.wp
  simp [execOp, hop, hl, hc, hr, Result.andThen]
  exact hK' _ _ (hK _ (heap_alloc_new w _) (World.grownBy_alloc w _ none))

/-- a row of numbers that the call owns -/
def Row (w : World) (base g c : Nat) (xs : List Nat) : Prop := w.ownsRow base 2 1 (.slice (some ⟨g, 0, none⟩) xs.length c) xs.length ((Fc.ints xs).map (Value.int .i64))


/-! ### What holds at the outer loop's head -/
structure DvOut (n : Nat) (l : List (Nat × Nat)) (i : Nat) (out : List Nat) (N m p : Nat) : Prop where
  le : i ≤ l.length
  good : Fc.Good N out
  fac : Fc.IsFac p m (l.drop i)
  mul : N * m = n
  cop : ∀ q, p ≤ q → Nt.isP q → ¬ q ∣ N
  eq : Fc.divsFrom out (l.drop i) = Fc.divs n
  pos : 0 < out.length

theorem DvOut.start {n : Nat} (h : 0 < n) : DvOut n (Fc.facs n) 0 [1] 1 n 2 :=
  ⟨Nat.zero_le _, Fc.Good.one, Fc.facs_is n h, Nat.one_mul _, fun q _ pq d => by have := Nat.le_of_dvd (by omega) d; have := pq.1; omega, rfl, by simp⟩

theorem pws_pos {p : Nat} {l : List Nat} (h : 0 < l.length) (k : Nat) : 0 < (Fc.pws p l k).length := by
  rw [Fc.pws_length]; exact Nat.mul_pos h (Nat.succ_pos _)

theorem DvOut.next {n i : Nat} {l : List (Nat × Nat)} {out : List Nat} {N m p : Nat} (h : DvOut n l i out N m p) (hi : i < l.length) :
    ∃ q k, l[i]? = some (q, k) ∧ 2 ≤ q ∧ 1 ≤ k ∧ N * q ^ k ≤ n ∧ ∃ m' p', DvOut n l (i + 1) (Fc.pws q out k) (N * q ^ k) m' p' := by
  obtain ⟨q, k, hqk⟩ : ∃ q k, l[i] = (q, k) := ⟨l[i].1, l[i].2, rfl⟩
  have hd : l.drop i = (q, k) :: l.drop (i + 1) := by rw [List.drop_eq_getElem_cons hi, hqk]
  have hf := h.fac
  rw [hd] at hf
  obtain ⟨pq, hq, k1, m', e, m0, nd, hf'⟩ := hf
  have hq2 := hq.1
  refine ⟨q, k, by rw [List.getElem?_eq_getElem hi, hqk], hq2, k1, ?_, m', q + 1, ⟨hi, h.good.pws hq (h.cop _ pq hq) _, hf', by rw [Nat.mul_assoc, ← e, h.mul], ?_, ?_, pws_pos h.pos _⟩⟩
  · rw [← h.mul, e, ← Nat.mul_assoc]; exact Nat.le_mul_of_pos_right _ m0
  · intro r hr pr d
    by_cases dN : r ∣ N
    · exact h.cop r (by omega) pr dN
    · have d2 := (pr.cop dN).symm.dvd_of_dvd_mul_left d
      have d3 := Fc.isP.pow pr d2
      rcases hq.2 r d3 with a | a
      · have := pr.1; omega
      · omega
  · rw [← h.eq, hd, Fc.divsFrom]

theorem DvOut.stop {n i : Nat} {l : List (Nat × Nat)} {out : List Nat} {N m p : Nat} (h : DvOut n l i out N m p) (hi : l.length ≤ i) : out = Fc.divs n := by
  have e := h.eq
  rw [List.drop_eq_nil_of_le hi] at e; exact e

/-- strictly rising numbers between two bounds are no more than fit -/
theorem rise_len : ∀ (l : List Int) (a b : Int), l.Pairwise (· < ·) → (∀ x ∈ l, a < x ∧ x ≤ b) → a ≤ b → a + l.length ≤ b
  | [], a, b, _, _, h => by simpa using h
  | x :: t, a, b, hp, hb, _ => by
    have h1 := hb x (by simp)
    rw [List.pairwise_cons] at hp
    have := rise_len t x b hp.2 (fun y hy => ⟨hp.1 y hy, (hb y (by simp [hy])).2⟩) h1.2
    simp only [List.length_cons]; omega

theorem good_len {N : Nat} {out : List Nat} (g : Fc.Good N out) : out.length ≤ N := by
  have := rise_len (Fc.srt (Fc.ints out)) 0 N (Fc.srt_strict (Fc.ints_nodup g.nodup)) (fun x hx => by
    obtain ⟨y, hy, rfl⟩ := List.mem_map.1 ((Fc.srt_perm _).mem_iff.1 hx)
    have h0 := g.x0 y hy
    have h1 := Nat.le_of_dvd g.pos (g.dvd y hy)
    show (0 : Int) < (y : Int) ∧ (y : Int) ≤ N
    omega) (by omega)
  rw [Fc.srt_length, Fc.ints, List.length_map] at this
  omega

theorem good_le {N : Nat} {out : List Nat} (g : Fc.Good N out) {x : Nat} (hx : x ∈ out) : x ≤ N := Nat.le_of_dvd g.pos (g.dvd x hx)

/-- in the innermost loop: as far as j the numbers have been multiplied -/
def mid (q : Nat) (l : List Nat) (j : Nat) : List Nat := (l.take j).map (· * q) ++ l.drop j
theorem mid_zero (q : Nat) (l : List Nat) : mid q l 0 = l := by simp [mid]
theorem mid_end (q : Nat) (l : List Nat) : mid q l l.length = l.map (· * q) := by simp [mid]
theorem mid_length (q : Nat) (l : List Nat) (j : Nat) : (mid q l j).length = l.length := by simp [mid]; omega
theorem mid_get (q : Nat) (l : List Nat) (j : Nat) (h : j < l.length) : (mid q l j)[j]? = l[j]? := by
  rw [mid, List.getElem?_append_right (by simp; omega)]
  simp [Nat.min_eq_left (Nat.le_of_lt h)]
theorem mid_step (q : Nat) (l : List Nat) (j : Nat) (h : j < l.length) : (mid q l j).set j (l[j] * q) = mid q l (j + 1) := by
  have e1 : ((l.take j).map (· * q)).length = j := by simp; omega
  rw [mid, List.set_append_right _ _ (by omega), e1, Nat.sub_self, List.drop_eq_getElem_cons h, List.set_cons_zero, mid, List.take_succ_eq_append_getElem h, List.map_append, List.append_assoc]
  rfl

/-! ### The rows in the inner loops -/
theorem grown_of_below {w w' : World} (hb : Below w.heap.size w w') (row : Option Nat) : w.grownBy w' row := ⟨hb.os, hb.tape, hb.output, hb.size, fun k hk _ => hb.block k hk⟩
theorem Row.below {w w' : World} {base g c : Nat} {xs : List Nat} (h : Row w base g c xs) (hb : Below w.heap.size w w') : Row w' base g c xs :=
  World.ownsRow.kept h (grown_of_below hb none) (.inr (by simp [Value.ownBlock]))
theorem Row.block {w : World} {base g c : Nat} {xs : List Nat} (h : Row w base g c xs) : base ≤ g ∧ xs.length ≤ c ∧ ∃ cur : Array Value, w.heap[g]? = some (.cells cur 2 (0, 0)) := by
  rcases h.2 with ⟨e, _⟩ | ⟨g', c', cur, e, hb, hg, hn, _⟩
  · cases e
  · cases e; exact ⟨hb, hn, cur, hg⟩
theorem Row.lt {w : World} {base g c : Nat} {xs : List Nat} (h : Row w base g c xs) : g < w.heap.size := by
  obtain ⟨_, _, _, e⟩ := h.block
  exact lt_of_block e
theorem Row.get {w : World} {base g c : Nat} {xs : List Nat} (h : Row w base g c xs) {j x : Nat} (hj : xs[j]? = some x) : w.cell? ⟨g, j, none⟩ = some (.int .i64 (x : Int)) ∧ w.frozen? ⟨g, j, none⟩ = false := by
  have lt : j < xs.length := (List.getElem?_eq_some_iff.1 hj).1
  refine ⟨?_, World.ownsRow.frozenAt h j⟩
  rw [World.ownsRow.cellAt h j (by omega), Fc.ints, List.map_map, List.getElem?_map, hj]; rfl
theorem Row.kept {w w' : World} {base g c r : Nat} {xs : List Nat} (h : Row w base g c xs) (hg : w.grownBy w' (some r)) (ne : g ≠ r) : Row w' base g c xs :=
  World.ownsRow.kept h hg (.inr (by simp [Value.ownBlock]; exact ne))
theorem Row.set {w : World} {base g c : Nat} {xs : List Nat} (h : Row w base g c xs) (j x : Nat) : Row (w.setCell ⟨g, j, none⟩ (.int .i64 (x : Int))) base g c (xs.set j x) ∧ w.grownBy (w.setCell ⟨g, j, none⟩ (.int .i64 (x : Int))) (some g) := by
  obtain ⟨a, b⟩ := World.ownsRow.stored h j (.int .i64 (x : Int))
  refine ⟨?_, b⟩
  unfold Row
  rw [List.length_set]
  have e : (Fc.ints (xs.set j x)).map (Value.int .i64) = ((Fc.ints xs).map (Value.int .i64)).set j (.int .i64 (x : Int)) := by
    rw [Fc.ints, List.map_set, List.map_set]; rfl
  rw [e]; exact a

theorem made_row {w w2 : World} {o : Obj} {A : Array Value} {m : Nat} (h9 : w2.heap[(w.alloc o).heap.size]? = some (.cells A 2 (0, 0))) (hA : A.size = m) : ∃ Z : List Value, w2.heap[w.heap.size + 1]? = some (.cells Z.toArray 2 (0, 0)) ∧ Z.length = m :=
  ⟨A.toList, by simpa using h9, by simpa using hA⟩
theorem made_below {w w2 : World} {o : Obj} (g2 : (w.alloc o).grownBy w2 none) : w2.heap[w.heap.size]? = some o ∧ Below w.heap.size w w2 :=
  ⟨(g2.block w.heap.size (by simp) (by simp)).trans (heap_alloc_new w o), ((Below.refl _ w).alloc (Nat.le_refl _) o).grown g2 (by simp) (by simp)⟩
theorem one_cells (xs : List Nat) : ∀ u ∈ (Fc.ints xs).map (Value.int .i64), u.oneCell' = true := by
  intro u hu
  obtain ⟨x, _, rfl⟩ := List.mem_map.1 hu
  rfl
theorem Row.cells {w : World} {base g c : Nat} {xs : List Nat} (h : Row w base g c xs) : ∀ j u, ((Fc.ints xs).map (Value.int .i64))[j]? = some u → w.cell? ((⟨g, 0, none⟩ : Addr).add j) = some u :=
  World.ownsRow.cells h rfl

/-- what holds in the inner loops: the struct's two cells, both rows, the list of primes -/
structure In (w : World) (v4 : Value) (L : List S38) (b8 q k g c g9 c9 : Nat) (out all : List Nat) (wx : World) : Prop where
  ne : g ≠ g9
  l8 : w.heap.size ≤ b8
  x : wx.heap[b8]? = some (.cells #[.int .i64 (q : Int), .int .i64 (k : Int)] 38 (0, 0))
  o : Row wx w.heap.size g c out
  a : Row wx w.heap.size g9 c9 all
  r : Kd.R k38 38 wx w.heap.size (fun _ => True) v4 L
  b : Below w.heap.size w wx

theorem In.start {w wr w3 : World} {v4 : Value} {L : List S38} {q k g c m : Nat} {out : List Nat} (O : Row wr w.heap.size g c out) (R : Kd.R k38 38 wr w.heap.size (fun _ => True) v4 L) (B : Below w.heap.size w wr)
    (B3 : Below wr.heap.size wr w3) (h8 : w3.heap[wr.heap.size]? = some (.cells #[.int .i64 (q : Int), .int .i64 (k : Int)] 38 (0, 0))) {Z : List Value} (hZ : Z.length = m) (hm : m ≤ maxLen) (ho : out.length ≤ m)
    (h9 : w3.heap[wr.heap.size + 1]? = some (.cells (splice Z 0 ((Fc.ints out).map (Value.int .i64))).toArray 2 (0, 0))) :
    In w v4 L wr.heap.size q k g c (wr.heap.size + 1) m out out w3 where
  ne := by have := O.lt; omega
  l8 := B.size
  x := h8
  o := O.below B3
  a := by
    have el : ((Fc.ints out).map (Value.int .i64)).length = out.length := by simp [Fc.ints]
    refine ⟨by rw [el, Nat.mul_one], .inr ⟨wr.heap.size + 1, m, _, rfl, by have := B.size; omega, h9, ho, hm, ?_, ?_⟩⟩
    · rw [List.size_toArray, length_splice _ _ _ (by rw [el, hZ]; omega), hZ, Nat.mul_one]
    · simp only [splice, List.take_zero, List.nil_append, Nat.mul_one]
      rw [← el]; simp
  r := Kd.R_below R B3
  b := B.trans (B3.mono B.size)

theorem In.x01 {w wx : World} {v4 : Value} {L : List S38} {b8 q k g c g9 c9 : Nat} {out all : List Nat} (h : In w v4 L b8 q k g c g9 c9 out all wx) :
    wx.cell? ⟨b8, 0, none⟩ = some (.int .i64 (q : Int)) ∧ wx.cell? ⟨b8, 1, none⟩ = some (.int .i64 (k : Int)) := by
  constructor <;> rw [cell_of_row wx b8 _ _ 38 (0, 0) h.x] <;> rfl

theorem R_len {w : World} {base : Nat} {ok : Nat → Prop} {v : Value} {xs : List S38} (h : Kd.R k38 38 w base ok v xs) : xs.length ≤ 9223372036854775807 := by
  obtain ⟨_, inner, ho, _⟩ := h
  rcases ho.2 with ⟨_, e⟩ | ⟨g', c', cur, e, hb, hg, hn, hm, _⟩
  · omega
  · unfold maxLen at hm; omega

theorem In.step {w wx : World} {v4 : Value} {L : List S38} {b8 q k g c g9 c9 : Nat} {out all : List Nat} (h : In w v4 L b8 q k g c g9 c9 out all wx) (j x : Nat) :
    In w v4 L b8 q k g c g9 c9 (out.set j x) all (wx.setCell ⟨g, j, none⟩ (.int .i64 (x : Int))) := by
  obtain ⟨s1, s2⟩ := h.o.set j x
  obtain ⟨hb, _, cur, hg⟩ := h.o.block
  have ne8 : b8 ≠ g := fun e => by subst e; rw [h.x] at hg; simp at hg
  exact ⟨h.ne, h.l8, (Below.heap_setCell _ _ _ _ ne8).trans h.x, s1, h.a.kept s2 (fun e => h.ne e.symm), Kd.R_set h.r hg (by decide) j _, h.b.setCell hb _⟩

theorem In.drew {w wx : World} {v4 : Value} {L : List S38} {b8 q k g c g9 c9 : Nat} {out all : List Nat} (h : In w v4 L b8 q k g c g9 c9 out all wx) : In w v4 L b8 q k g c g9 c9 out all wx.drew :=
  ⟨h.ne, h.l8, h.x, h.o, h.a, Kd.R_drew h.r, h.b.drew⟩

theorem In.more {w wx w' : World} {v4 : Value} {L : List S38} {b8 q k g c g9 c9 : Nat} {out all : List Nat} (h : In w v4 L b8 q k g c g9 c9 out all wx)
    (hown : w'.ownsRow w.heap.size 2 1 (.slice (some ⟨g9, 0, none⟩) (all.length + out.length) c9) (all.length + out.length) ((Fc.ints all).map (Value.int .i64) ++ (Fc.ints out).map (Value.int .i64))) (hgr : wx.grownBy w' (some g9)) :
    In w v4 L b8 q k g c g9 c9 out (all ++ out) w' := by
  obtain ⟨hb, _, cur, hg⟩ := h.a.block
  have ne8 : b8 ≠ g9 := fun e => by subst e; rw [h.x] at hg; simp at hg
  refine ⟨h.ne, h.l8, (hgr.block b8 (lt_of_block h.x) (fun e => ne8 (Option.some.inj e))).trans h.x, h.o.kept hgr h.ne, ?_, ?_, h.b.grown hgr h.b.size (fun j hj => by cases hj; exact hb)⟩
  · unfold Row
    have e : (Fc.ints (all ++ out)).map (Value.int .i64) = (Fc.ints all).map (Value.int .i64) ++ (Fc.ints out).map (Value.int .i64) := by simp [Fc.ints]
    rw [List.length_append, e]; exact hown
  · exact Kd.R_mono (Kd.R_grown (Kd.R_types h.r hg (by decide)) hgr (fun k hk e => hk.2 (Option.some.inj e))) (fun _ hk => hk.1)
end Go.Proofs.Ytkgejfokdmdikaa
