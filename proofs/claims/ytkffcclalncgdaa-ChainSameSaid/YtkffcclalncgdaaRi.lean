/- Natural numbers: how many bits a number has; whether it is not too long; walks. Natural numbers: the sum, by a walk. Products by digits. Plain Lean, no program. Natural numbers: the product, by a walk. Natural numbers: the product, if it is not too long, by a walk. Dividing by one digit. Plain Lean, no program. Two halves of 64 bits, put together. Natural numbers: division by one digit, in place, by a walk. Digits shifted up and down. Plain Lean, no program. Long division by digits. Plain Lean, no program. Long division: the state between two digits. Plain Lean, no program. Natural numbers: long division, by a walk. Natural numbers: division, by a walk. Euclid's steps with cofactors. Plain Lean, no program. Natural numbers as lists that nobody turns: what the walks of nat say, said to the evaluator. Code that works upon a block of digits of its own: what Iv tells of the rest, and the digits beside. Natural numbers: short and cut upon a block of one's own. Regions that call short, cut, or copy digits. Digits copied; a function that works upon digits of its own. Decimal digits: nine at a time, four at a time; a row turned round by swaps. (nat.Nat).Text, walked. Numbers: their answers -/
import Derived.Test.YtkffcclalncgdaaRg
import Derived.Test.YtkffcclalncgdaaRh
import Derived.BigQuiet
import Derived.Deep.QuietTactic
import Derived.Deep.RegionWith
import Derived.Deep.DeepCutAuto
import Derived.RowKit
import Derived.Laws.BitsLemmas
import Derived.WalkKit
import Derived.Laws.Bits64
import Derived.Deep.CutBlock
import Derived.ArgAppend
import Derived.Test.YtkffcclalncgdaaRe
import Derived.Test.YtkffcclalncgdaaRc
import Derived.Test.YtkffcclalncgdaaRd
import Derived.Test.YtkffcclalncgdaaRf
section
set_option linter.unusedVariables false
set_option linter.unusedSimpArgs false
namespace Go.Proofs.Ytkffcclalncgdaa.Nv
open Go Go.RowKit Dg
theorem len32_calls (x : Nat) (w : World) (h1 : x < 4294967296) : Calls Try.prog 72 #[.int .u32 (x : Int)] w fun e w' => e = .returned (.int .i64 (bl x : Int)) ∧ w' = w := by
 have h := len32_shelf (x : Int) w (by omega) (by omega)
 rw [Int.toNat_natCast, lib_bl x x (Nat.le_refl _) (by omega)] at h
 exact h
set_option maxRecDepth 100000 in
set_option maxHeartbeats 1600000 in
theorem bits_calls (v : Value) (n : Nat) (w : World) (hn : Num w v n) :
    Calls Try.prog 58 #[.agg #[v]] w fun e w' => e = .returned (.int .i64 (bl n : Int)) ∧ Below w.heap.size w w' := by
 obtain ⟨A, c, rfl, hc, hr⟩ := hn
 have HR := As.mk hr
 have len := hr.len
 have HB := As.mk (Below.refl w.heap.size w)
 clear hr
 by_cases h0 : (dg n).length = 0
 ·have e : n = 0 := dg_nil.1 (List.length_eq_zero_iff.1 h0)
  have E := As.mk e
  have b0 : (((dg n).length : Int) == 0) = true := by rw [h0]; rfl
  clear e
  go_enter Try.func58, Try.ntmps58
  go_wp2
  go_ret
  rw [E.out]
  exact ⟨rfl, HB.out.alloc (Nat.le_refl _) _⟩
 ·have b0 : (((dg n).length : Int) == 0) = false := beq_eq_false_iff_ne.mpr (by omega)
  obtain ⟨x, hx⟩ : ∃ x, x = (dg n)[(dg n).length - 1]'(by omega) := ⟨_, rfl⟩
  have xb : x < 4294967296 := by rw [hx]; exact dg_ok' n _ (List.getElem_mem _)
  have bd := bl_dg (n := n) (by omega)
  rw [← hx] at bd
  have HD := As.mk bd
  have b32 : bl x ≤ 32 := bl_le.2 xb
  obtain ⟨ad, hA, cx⟩ := (HR.out.below ((Below.refl _ w).alloc (Nat.le_refl _) (.cells #[.slice A (dg n).length c] 52))).get (j := (dg n).length - 1) (by omega)
  rw [← hx] at cx
  cases hA
  have cB := cell_of_one (heap_alloc_new w (.cells #[.slice (some ad) ((dg n).length : Nat) c] 52))
  clear hx bd
  go_enter Try.func58, Try.ntmps58
  have B9 := As.mk (HB.out.alloc (Nat.le_refl _) (.cells #[.slice (some ad) ((dg n).length : Nat) c] 52))
  go_wp2
  generalize w.alloc (.cells #[.slice (some ad) ((dg n).length : Nat) c] 52) = w9 at *
  go_quiet (first | (go_at_call 72; exact Calls.quiet_of_same (len32_calls x _ xb)))
  go_wp2
  go_ret
  have ec : 32 * (((dg n).length : Int) - 1) + (bl x : Int) = (bl n : Int) := by rw [HD.out]; omega
  rw [ec]
  exact ⟨rfl, drewN_below B9.out _⟩
theorem bits_rd (A : Option Addr) (c n : Nat) (w : World) (hc : (dg n).length ≤ c) (hr : Rd w A (dg n)) :
    Calls Try.prog 58 #[.agg #[.slice A (dg n).length c]] w fun e w' => e = .returned (.int .i64 (bl n : Int)) ∧ Below w.heap.size w w' := bits_calls _ n w ⟨A, c, rfl, hc, hr⟩
set_option maxRecDepth 100000 in
set_option maxHeartbeats 1600000 in
theorem fits_calls (v : Value) (n : Nat) (w : World) (hn : Num w v n) (hb : bl n ≤ 4096) :
    Calls Try.prog 60 #[.agg #[v]] w fun e w' => ∃ v', e = .returned (.tuple #[.agg #[v'], .int .i64 0]) ∧ Num w' v' n ∧ Below w.heap.size w w' := by
 have hn0 := As.mk hn
 obtain ⟨A, c, rfl, hc, hr⟩ := hn
 have HR := As.mk hr
 have len := hr.len
 have b := hb
 have HB := As.mk (Below.refl w.heap.size w)
 have N1 := As.mk ((hn0.out.below ((Below.refl _ w).alloc (Nat.le_refl _) (.cells #[.slice A ((dg n).length : Nat) c] 52))).below ((Below.refl _ _).alloc (Nat.le_refl _) (.cells #[.slice none 0 0] 52)))
 clear hr hb
 go_enter Try.func60, Try.ntmps60
 go_wp2_with (go_at_call 58; refine (bits_calls (.slice A ((dg n).length : Nat) c) n _ N1.out).mono ?_; rintro e w2 ⟨rfl, hb2⟩; have B2 := As.mk (bel2 hb2); have K1 := As.mk (blk2 hb2); have K2 := As.mk (blkB hb2); have N2 := As.mk (N1.out.below hb2); have c1 := cell_of_one K1.out; have c2 := cell_of_one K2.out; have f2 := free_of_one K2.out; clear hb2)
 refine bodyPost_ret (ret_nat2 rfl (w.heap.size + 1) (.slice A ((dg n).length : Nat) c) (.int .i64 0) rfl rfl (one_setCell K2.out)) rfl ?_
 exact ⟨_, rfl, ⟨A, c, rfl, hc, (HR.out.below (B2.out)).put K2.out (by simp) _⟩, B2.out.setCell (Nat.le_succ _) _⟩
end Go.Proofs.Ytkffcclalncgdaa.Nv
end
section
set_option linter.unusedVariables false
set_option linter.unusedSimpArgs false
namespace Go.Proofs.Ytkffcclalncgdaa.Nv
open Go Go.RowKit Dg
theorem Rd.cells {w : World} {A : Option Addr} {l : List Nat} (h : Rd w A l) (hl : 0 < (us l).length) : ∃ ad, A = some ad ∧ ∀ j v, (us l)[j]? = some v → w.cell? (ad.add j) = some v := by
 obtain ⟨ad, e, hc⟩ := h.at_ (by rwa [us_len] at hl)
 refine ⟨ad, e, fun j v hj => ?_⟩
 rw [us, List.getElem?_map] at hj
 obtain ⟨x, hx, rfl⟩ := Option.map_eq_some_iff.1 hj
 exact hc j x hx
end Go.Proofs.Ytkffcclalncgdaa.Nv
end
section
set_option linter.unusedVariables false
set_option linter.unusedSimpArgs false
namespace Go.Proofs.Ytkffcclalncgdaa.Dg
set_option maxRecDepth 10000
theorem val_set {l : List Nat} {k : Nat} (hk : k < l.length) (y : Nat) : val (l.set k y) + 4294967296 ^ k * l[k] = val l + 4294967296 ^ k * y := by
 have h1 := val_at (l := l) k hk
 have h2 := val_at (l := l.set k y) k (by simpa using hk)
 rw [List.getElem_set_self, List.take_set_of_le (Nat.le_refl _), List.drop_set_of_lt (by omega)] at h2
 rw [h2]
 rw [h1]
 simp only [Nat.mul_add]
 omega
theorem ok_set {l : List Nat} (h : ok l) (k : Nat) {y : Nat} (hy : y < 4294967296) : ok (l.set k y) := fun x hx => by
 rcases List.mem_or_eq_of_mem_set hx with e | e
 ·exact h x e
 ·omega
def Z (l : List Nat) (k : Nat) : Prop := ∀ t, k ≤ t → at0 l t = 0
theorem Z_set {l : List Nat} {k j y : Nat} (h : Z l k) (hj : j < k) : Z (l.set j y) k := fun t ht => by
 have := h t ht
 simp only [at0, List.getD_eq_getElem?_getD] at this ⊢
 rw [List.getElem?_set_ne (by omega)]; exact this
structure Pro (lp lq : List Nat) (i : Nat) (out : List Nat) : Prop where
 len : out.length = lp.length + lq.length
 ok : ok out
 eq : val out = val (lp.take i) * val lq
 z : Z out (i + lq.length)
structure Row1 (lp lq : List Nat) (i x j cy : Nat) (out : List Nat) : Prop where
 len : out.length = lp.length + lq.length
 ok : Dg.ok out
 c1 : cy < 4294967296
 eq : val out + 4294967296 ^ (i + j) * cy = val (lp.take i) * val lq + 4294967296 ^ i * (x * val (lq.take j))
 z : Z out (i + lq.length)
theorem Pro.start (lp lq : List Nat) : Pro lp lq 0 (List.replicate (lp.length + lq.length) 0) := by
 refine ⟨by simp, fun x hx => by rw [(List.mem_replicate.1 hx).2]; omega, ?_, fun t _ => ?_⟩
 ·rw [List.take_zero]
  have : ∀ n, val (List.replicate n 0) = 0 := by
   intro n
   induction n with
   | zero => rfl
   | succ n ih => rw [List.replicate_succ, val, ih]
  rw [this]; simp [val]
 ·simp only [at0, List.getD_eq_getElem?_getD, List.getElem?_replicate]
  split <;> rfl
theorem Pro.row {lp lq : List Nat} {i : Nat} {out : List Nat} (h : Pro lp lq i out) (x : Nat) : Row1 lp lq i x 0 0 out :=
 ⟨h.len, h.ok, by omega, by rw [List.take_zero]; simp [val, h.eq], h.z⟩
theorem bound {x y o c : Nat} (hx : x < 4294967296) (hy : y < 4294967296) (ho : o < 4294967296) (hc : c < 4294967296) : x * y ≤ 18446744065119617025 ∧ (c + (x * y + o)) / 4294967296 < 4294967296 := by
 have : x * y ≤ 4294967295 * 4294967295 := Nat.mul_le_mul (by omega) (by omega)
 omega
theorem Row1.next {lp lq : List Nat} {i x j cy : Nat} {out : List Nat} (h : Row1 lp lq i x j cy out) (hi : i < lp.length) (hj : j < lq.length) (hx : x < 4294967296) (okq : Dg.ok lq) :
    Row1 lp lq i x (j + 1) ((cy + (x * lq[j] + out[i + j]'(by have := h.len; omega))) / 4294967296) (out.set (i + j) ((cy + (x * lq[j] + out[i + j]'(by have := h.len; omega))) % 4294967296)) := by
 have hk : i + j < out.length := by have := h.len; omega
 have y := okq _ (List.getElem_mem hj)
 have o := h.ok _ (List.getElem_mem hk)
 have b := bound hx y o h.c1
 refine ⟨by rw [List.length_set]; exact h.len, ok_set h.ok _ (Nat.mod_lt _ (by omega)), b.2, ?_, Z_set h.z (by omega)⟩
 have s := val_set hk ((cy + (x * lq[j] + out[i + j])) % 4294967296)
 have e := h.eq
 have t := val_take j hj
 generalize out[i + j] = o' at *
 generalize lq[j] = y' at *
 generalize hS : cy + (x * y' + o') = S at *
 have d : 4294967296 ^ (i + j) * (S % 4294967296) + 4294967296 ^ (i + (j + 1)) * (S / 4294967296) = 4294967296 ^ (i + j) * S := by
  rw [show i + (j + 1) = i + j + 1 by omega, Nat.pow_succ, Nat.mul_assoc, ← Nat.mul_add, Nat.mod_add_div]
 have f : 4294967296 ^ (i + j) * S = 4294967296 ^ (i + j) * cy + (4294967296 ^ i * (x * (4294967296 ^ j * y')) + 4294967296 ^ (i + j) * o') := by
  rw [← hS, Nat.mul_add, Nat.mul_add]
  congr 2
  rw [Nat.pow_add]; ac_rfl
 rw [t, Nat.mul_add x, Nat.mul_add (4294967296 ^ i)]
 omega
theorem Row1.stop {lp lq : List Nat} {i x cy : Nat} {out : List Nat} (h : Row1 lp lq i x lq.length cy out) (hi : i < lp.length) (hx : x = lp[i]) : Pro lp lq (i + 1) (out.set (i + lq.length) cy) := by
 have hk : i + lq.length < out.length := by have := h.len; omega
 have s := val_set hk cy
 have z : out[i + lq.length] = 0 := by have := h.z _ (Nat.le_refl _); rwa [at0_lt hk] at this
 rw [z, Nat.mul_zero, Nat.add_zero] at s
 have e := h.eq
 rw [List.take_length] at e
 refine ⟨by rw [List.length_set]; exact h.len, ok_set h.ok _ h.c1, ?_, fun t ht => ?_⟩
 ·rw [s, e, val_take i hi, ← hx, Nat.add_mul, Nat.mul_assoc]
 ·have := h.z t (by omega)
  simp only [at0, List.getD_eq_getElem?_getD] at this ⊢
  rw [List.getElem?_set_ne (by omega)]; exact this
end Go.Proofs.Ytkffcclalncgdaa.Dg
end
section
set_option linter.unusedVariables false
set_option linter.unusedSimpArgs false
namespace Go.Proofs.Ytkffcclalncgdaa.Nv
open Go Go.RowKit Dg
set_option maxRecDepth 100000 in
set_option maxHeartbeats 6400000 in
theorem product_calls (v u : Value) (a b : Nat) (w : World) (ha : Num w v a) (hb : Num w u b) (la : (dg a).length ≤ 1000) (lb : (dg b).length ≤ 1000) :
    Calls Try.prog 59 #[.agg #[v], .agg #[u]] w fun e w' => ∃ v', e = .returned (.agg #[v']) ∧ Num w' v' (a * b) ∧ Below w.heap.size w w' := by
 obtain ⟨A, c, rfl, hc, hr⟩ := ha
 obtain ⟨A', c', rfl, hc', hr'⟩ := hb
 have R1 := As.mk hr
 have R2 := As.mk hr'
 clear hr hr'
 obtain ⟨i0, hi0, hz0, hz1, hz2⟩ := info_parts info_u32
 go_enter Try.func59, Try.ntmps59
 go_wp2_with (first
  | (at_make; refine wpList_make_lc _ rfl (.tmp 17) (.tmp 17) 50 rfl 86 i0 (.int .u32 0) Try.underlying50 hi0 hz0 .i64 .i64 _ _ ((dg a).length + (dg b).length) ((dg a).length + (dg b).length) rfl rfl (by simp) (by simp) (Nat.le_refl _) (by rw [hz2]; omega) (by unfold maxLen; omega) ?_; intro w2 h9 g2; obtain ⟨k1, k2, k3, b2⟩ := blk3 g2; have h9' := made_cells hz1 h9; rw [show ∀ o1 o2 o3 : Obj, (((w.alloc o1).alloc o2).alloc o3).heap.size = w.heap.size + 1 + 1 + 1 from fun _ _ _ => by simp] at h9'; have G2 := As.mk (Row.of_cells (w := w2) (g := w.heap.size + 1 + 1 + 1) (c := (dg a).length + (dg b).length) (l := List.replicate ((dg a).length + (dg b).length) 0) (rest := []) (base := w.heap.size) (by omega) (by rw [List.append_nil]; exact h9') (by simp) (by omega)); have K1 := As.mk k1; have K2 := As.mk k2; have K3 := As.mk k3; have B2 := As.mk b2; have RP2 := As.mk (R1.out.below b2); have c1 := cell_of_one K1.out; have c2 := cell_of_one K2.out; clear h9 h9' g2 k1 k2 k3 b2))
 clear hi0 hz0 hz1 hz2
 go_loopg [22] (dg a).length (fun gk v22 wr => ∃ (i : Nat) (out : List Nat), v22 = .int .i64 (i : Int) ∧ As (i ≤ (dg a).length ∧ (dg a).length - i ≤ gk) ∧ As (Pro (dg a) (dg b) i out) ∧ As (Row wr w.heap.size (w.heap.size + 1 + 1 + 1) ((dg a).length + (dg b).length) out) ∧
  As (wr.heap[w.heap.size + 1]? = some (.cells #[.slice A' ((dg b).length : Nat) c'] 52 (0, 0))) ∧ As (wr.heap[w.heap.size + 1 + 1]? = some (.cells #[.slice none 0 0] 52 (0, 0))) ∧ As (Below w.heap.size w wr))
 case atStart => exact ⟨0, _, rfl, ⟨by omega⟩, ⟨Pro.start _ _⟩, G2, K2, K3, B2⟩
 case round =>
  clear G2 K1 K2 K3 B2 RP2
  obtain ⟨i, out, rfl, I, S, G, K2, K3, B⟩ := hrel
  obtain ⟨il, ig⟩ := I.out
  have ol := S.out.len
  have c2 := cell_of_one K2.out
  by_cases hi : i < (dg a).length
  ·obtain ⟨ad, hA, cx⟩ := (R1.out.below B.out).get hi
   obtain ⟨x, hx⟩ : ∃ x, x = (dg a)[i] := ⟨_, rfl⟩
   have xb : x < 4294967296 := by rw [hx]; exact dg_ok' a _ (List.getElem_mem hi)
   rw [← hx] at cx
   have HX := As.mk hx
   cases hA
   clear hx
   go_wp2
   go_loopg [8, 30] (dg b).length (fun gk v8 v30 wx => ∃ (j cy : Nat) (o : List Nat), v8 = .int .u64 (cy : Int) ∧ v30 = .int .i64 (j : Int) ∧ As (j ≤ (dg b).length ∧ (dg b).length - j ≤ gk) ∧ As (Row1 (dg a) (dg b) i x j cy o) ∧ As (Row wx w.heap.size (w.heap.size + 1 + 1 + 1) ((dg a).length + (dg b).length) o) ∧
    As (wx.heap[w.heap.size + 1]? = some (.cells #[.slice A' ((dg b).length : Nat) c'] 52 (0, 0))) ∧ As (wx.heap[w.heap.size + 1 + 1]? = some (.cells #[.slice none 0 0] 52 (0, 0))) ∧ As (Below w.heap.size w wx))
   case atStart => exact ⟨0, 0, out, rfl, rfl, ⟨by omega⟩, ⟨S.out.row x⟩, G, K2, K3, B⟩
   case round =>
    clear S G K2 K3 B c2 cx ol
    obtain ⟨j, cy, o, rfl, rfl, J, S, G, K2, K3, B⟩ := hrel
    obtain ⟨jl, jg⟩ := J.out
    have c2 := cell_of_one K2.out
    have cyb := S.out.c1
    have ol := S.out.len
    by_cases hj : j < (dg b).length
    ·obtain ⟨ad', hA', cy'⟩ := (R2.out.below B.out).get hj
     obtain ⟨y, hy⟩ : ∃ y, y = (dg b)[j] := ⟨_, rfl⟩
     have yb : y < 4294967296 := by rw [hy]; exact dg_ok' b _ (List.getElem_mem hj)
     rw [← hy] at cy'
     have HY := As.mk hy
     cases hA'
     clear hy
     have ko : i + j < o.length := by omega
     obtain ⟨z, hz⟩ : ∃ z, z = o[i + j] := ⟨_, rfl⟩
     have zb : z < 4294967296 := by rw [hz]; exact S.out.ok _ (List.getElem_mem ko)
     obtain ⟨cz, fz⟩ := G.out.get ko
     rw [← hz] at cz
     have HZ := As.mk hz
     clear hz
     have bd := bound xb yb zb cyb
     have xy : (x : Int) * (y : Int) = ((x * y : Nat) : Int) := (Int.natCast_mul _ _).symm
     have xy0 : 0 ≤ (x : Int) * (y : Int) := by rw [xy]; omega
     have xy1 : (x : Int) * (y : Int) ≤ 18446744065119617025 := by rw [xy]; omega
     have XY := As.mk xy
     have BD := As.mk bd
     clear xy bd
     go_wp2
     go_roundg ((dg b).length - (j + 1))
     case measure => omega
     case rel =>
      have N := S.out.next hi hj xb (dg_ok' b)
      rw [← HY.out, ← HZ.out] at N
      have e1 : (((cy + (x * y + z)) / 4294967296 : Nat) : Int) = ((cy : Int) + ((x : Int) * (y : Int) + (z : Int))) / 4294967296 := by rw [XY.out]; omega
      have e2 : (((cy + (x * y + z)) % 4294967296 : Nat) : Int) = ((cy : Int) + ((x : Int) * (y : Int) + (z : Int))) % 4294967296 := by rw [XY.out]; omega
      have G' := G.out.set (i + j) ((cy + (x * y + z)) % 4294967296)
      rw [e2] at G'
      refine ⟨j + 1, _, _, ?_, by simp, ⟨by omega⟩, ⟨N⟩, ⟨G'⟩, ⟨(Below.heap_setCell _ _ _ _ (by show w.heap.size + 1 ≠ w.heap.size + 1 + 1 + 1; omega)).trans K2.out⟩, ⟨(Below.heap_setCell _ _ _ _ (by show w.heap.size + 1 + 1 ≠ w.heap.size + 1 + 1 + 1; omega)).trans K3.out⟩, ⟨B.out.setCell (by show w.heap.size ≤ w.heap.size + 1 + 1 + 1; omega) _⟩⟩
      rw [e1]
    ·have je : j = (dg b).length := by omega
     subst je
     obtain ⟨cz, fz⟩ := G.out.get (j := i + (dg b).length) (by omega)
     go_wp2
     go_roundg ((dg a).length - (i + 1))
     case measure => omega
     case rel => exact ⟨i + 1, _, by simp, ⟨by omega⟩, ⟨S.out.stop hi HX.out⟩, ⟨G.out.set (i + (dg b).length) cy⟩, ⟨(Below.heap_setCell _ _ _ _ (by show w.heap.size + 1 ≠ w.heap.size + 1 + 1 + 1; omega)).trans K2.out⟩, ⟨(Below.heap_setCell _ _ _ _ (by show w.heap.size + 1 + 1 ≠ w.heap.size + 1 + 1 + 1; omega)).trans K3.out⟩, ⟨B.out.setCell (by show w.heap.size ≤ w.heap.size + 1 + 1 + 1; omega) _⟩⟩
  ·have ie : i = (dg a).length := by omega
   subst ie
   have ev : val out = a * b := by have := S.out.eq; rw [List.take_length, val_dg', val_dg'] at this; exact this
   have CC := cut_calls (some ⟨w.heap.size + 1 + 1 + 1, 0, none⟩) ((dg a).length + (dg b).length) out wr (G.out.read (by omega)) S.out.ok (by omega)
   rw [ol, ev] at CC
   have CO := As.mk CC
   have lt3 : w.heap.size + 1 + 1 < wr.heap.size := by have := G.out.lt; omega
   clear CC ev c2 ol
   go_wp2_with (first
    | (go_at_call 49; refine CO.out.mono ?_; rintro e w5 ⟨v5, rfl, hn5, hb5⟩; obtain ⟨A5, c5, rfl, hc5, hr5⟩ := hn5; have R5 := As.mk hr5; have B5 := As.mk (B.out.trans (hb5.mono B.out.size)); have K5 := As.mk ((hb5.block _ lt3).trans K3.out); have c5' := cell_of_one K5.out; have f5' := free_of_one K5.out; clear hr5 hb5))
   refine bodyPost_ret (ret_nat rfl (w.heap.size + 1 + 1) (.slice A5 ((dg (a * b)).length : Nat) c5) rfl (one_setCell K5.out)) rfl ?_
   exact ⟨_, rfl, ⟨A5, c5, rfl, hc5, R5.out.put K5.out (by simp) _⟩, B5.out.setCell (by show w.heap.size ≤ w.heap.size + 1 + 1; omega) _⟩
end Go.Proofs.Ytkffcclalncgdaa.Nv
end
section
set_option linter.unusedVariables false
set_option linter.unusedSimpArgs false
namespace Go.Proofs.Ytkffcclalncgdaa.Nv
open Go Go.RowKit Dg
theorem product_rd (A A' : Option Addr) (c c' a b : Nat) (w : World) (hc : (dg a).length ≤ c) (hr : Rd w A (dg a)) (hc' : (dg b).length ≤ c') (hr' : Rd w A' (dg b)) (la : (dg a).length ≤ 1000) (lb : (dg b).length ≤ 1000) :
    Calls Try.prog 59 #[.agg #[.slice A (dg a).length c], .agg #[.slice A' (dg b).length c']] w fun e w' => ∃ v', e = .returned (.agg #[v']) ∧ Num w' v' (a * b) ∧ Below w.heap.size w w' :=
 product_calls _ _ a b w ⟨A, c, rfl, hc, hr⟩ ⟨A', c', rfl, hc', hr'⟩ la lb
theorem bl_prodk {a b k : Nat} (h : bl a + bl b ≤ k) : bl (a * b) ≤ k := bl_le.2 (by
 have h1 := bl_lt a
 have h2 := bl_lt b
 have h3 : a * b < 2 ^ bl a * 2 ^ bl b := by
  rcases Nat.eq_zero_or_pos b with z | z
  ·subst z; rw [Nat.mul_zero]; exact Nat.mul_pos (Nat.pow_pos (by omega)) (Nat.pow_pos (by omega))
  ·exact Nat.lt_of_lt_of_le ((Nat.mul_lt_mul_right z).2 h1) (Nat.mul_le_mul_left _ (by omega))
 rw [← Nat.pow_add] at h3
 exact Nat.lt_of_lt_of_le h3 (Nat.pow_le_pow_right (by omega) h))
theorem bl_prod {a b : Nat} (h : bl a + bl b ≤ 4096) : bl (a * b) ≤ 4096 := bl_prodk h
set_option maxRecDepth 100000 in
set_option maxHeartbeats 6400000 in
theorem mul_calls (v u : Value) (a b : Nat) (w : World) (ha : Num w v a) (hb : Num w u b) (hs : bl a + bl b ≤ 4096) :
    Calls Try.prog 34 #[.agg #[v], .agg #[u]] w fun e w' => ∃ v', e = .returned (.tuple #[.agg #[v'], .int .i64 0]) ∧ Num w' v' (a * b) ∧ Below w.heap.size w w' := by
 obtain ⟨A, c, rfl, hc, hr⟩ := ha
 obtain ⟨A', c', rfl, hc', hr'⟩ := hb
 have la := len128 (n := a) (by omega)
 have lb := len128 (n := b) (by omega)
 have R1 := As.mk hr
 have R2 := As.mk hr'
 clear hr hr'
 have sz : ∀ o1 o2 o3 : Obj, (((w.alloc o1).alloc o2).alloc o3).heap.size = w.heap.size + 1 + 1 + 1 := fun _ _ _ => by simp
 obtain ⟨k1, k2, k3, b0⟩ := blk3 (w := w) (o1 := .cells #[.slice A ((dg a).length : Nat) c] 52) (o2 := .cells #[.slice A' ((dg b).length : Nat) c'] 52) (o3 := .cells #[.slice none 0 0] 52) (World.grownBy.refl _ _)
 have K1 := As.mk k1
 have K2 := As.mk k2
 have K3 := As.mk k3
 have B := As.mk b0
 have L3 := As.mk (lt_of_block k3)
 clear k1 k2 k3 b0 sz
 have ev : Value.bool (decide ((4097 : Int) < IntKind.i64.wrap ((bl a : Int) + (bl b : Int)))) = Value.bool false := by
  rw [IntKind.wrap_i64, decide_eq_false (by omega)]
 have EV := As.mk ev
 clear ev
 go_enter Try.func34, Try.ntmps34
 go_wp2
 go_cut [11] (fun s11 wx => s11 = .bool false ∧ As (wx.heap[w.heap.size]? = some (.cells #[.slice A ((dg a).length : Nat) c] 52 (0, 0))) ∧ As (wx.heap[w.heap.size + 1]? = some (.cells #[.slice A' ((dg b).length : Nat) c'] 52 (0, 0))) ∧ As (wx.heap[w.heap.size + 1 + 1]? = some (.cells #[.slice none 0 0] 52 (0, 0))) ∧ As (Below w.heap.size w wx))
 case first =>
  go_region_with (first | (go_at_call 58; (first | (with_reducible refine (bits_rd A c a _ hc (R1.out.below ?bb)).mono ?_; (case bb => first | exact B.out | exact B.out.drew)) | (with_reducible refine (bits_rd A' c' b _ hc' (R2.out.below ?bb)).mono ?_; (case bb => first | exact B.out | exact B.out.drew))); rintro e w2 ⟨rfl, hb⟩; have B2 := As.mk (by first | exact B.out.trans (hb.mono B.out.size) | exact B.out.drew.trans (hb.mono B.out.size) : Below w.heap.size w w2); have L3' := As.mk (Nat.lt_of_lt_of_le L3.out hb.size); have K1' := As.mk ((hb.block _ (Nat.lt_of_le_of_lt (by omega) L3.out)).trans K1.out); have K2' := As.mk ((hb.block _ (Nat.lt_of_le_of_lt (by omega) L3.out)).trans K2.out); have K3' := As.mk ((hb.block _ L3.out).trans K3.out); clear hb B K1 K2 K3 L3; have B := B2; have K1 := K1'; have K2 := K2'; have K3 := K3'; have L3 := L3'; have c1 := cell_of_one K1.out; have c2 := cell_of_one K2.out; clear B2 K1' K2' K3' L3'))
  all_goals (go_wp2_with fail; go_meet; exact ⟨EV.out, K1, K2, K3, B⟩)
 case rest =>
  obtain ⟨rfl, K1, K2, K3, B⟩ := hcut
  have L3 := As.mk (lt_of_block K3.out)
  have c1 := cell_of_one K1.out
  have c2 := cell_of_one K2.out
  have RA := As.mk (R1.out.below B.out)
  have RB := As.mk (R2.out.below B.out)
  have HP := As.mk (bl_prod hs)
  go_wp2_with (first
   | (go_at_call 59; (with_reducible refine (product_rd A A' c c' a b _ hc RA.out hc' RB.out ?la ?lb).mono ?_); (case la => omega); (case lb => omega); rintro e w4 ⟨v4, rfl, hn4, hb4⟩; have N4 := As.mk hn4; have B4 := As.mk (B.out.trans (hb4.mono B.out.size)); have K4 := As.mk ((hb4.block _ L3.out).trans K3.out); have L4 := Nat.lt_of_lt_of_le L3.out hb4.size; clear hn4 hb4)
   | (go_at_call 60; (with_reducible refine (fits_calls v4 (a * b) _ N4.out HP.out).mono ?_); rintro e w5 ⟨v5, rfl, hn5, hb5⟩; obtain ⟨A5, c5, rfl, hc5, hr5⟩ := hn5; have R5 := As.mk hr5; have B5 := As.mk (B4.out.trans (hb5.mono B4.out.size)); have K5 := As.mk ((hb5.block _ L4).trans K4.out); have c5' := cell_of_one K5.out; have f5' := free_of_one K5.out; clear hr5 hb5))
  refine bodyPost_ret (ret_nat2 rfl (w.heap.size + 1 + 1) (.slice A5 ((dg (a * b)).length : Nat) c5) (.int .i64 0) rfl rfl (one_setCell K5.out)) rfl ?_
  exact ⟨_, rfl, ⟨A5, c5, rfl, hc5, R5.out.put K5.out (by simp) _⟩, B5.out.setCell (by show w.heap.size ≤ w.heap.size + 1 + 1; omega) _⟩
end Go.Proofs.Ytkffcclalncgdaa.Nv
end
section
set_option linter.unusedVariables false
set_option linter.unusedSimpArgs false
namespace Go.Proofs.Ytkffcclalncgdaa.Dg
set_option maxRecDepth 10000
structure Sh (l : List Nat) (b j r : Nat) (hi : List Nat) : Prop where
 len : hi.length + j = l.length
 ok : ok hi
 r1 : r < b
 eq : val hi * b + r = val (l.drop j)
theorem Sh.start {l : List Nat} {b : Nat} (hb : 0 < b) : Sh l b l.length 0 [] := ⟨by simp, fun x hx => absurd hx (by simp), hb, by rw [List.drop_length]; simp [val]⟩
theorem Sh.next {l : List Nat} {b j r : Nat} {hi : List Nat} (h : Sh l b (j + 1) r hi) (okl : Dg.ok l) (hj : j < l.length) :
    Sh l b j ((r * 4294967296 + l[j]) % b) (((r * 4294967296 + l[j]) / b) :: hi) := by
 have b0 : 0 < b := by have := h.r1; omega
 have x := okl _ (List.getElem_mem hj)
 have q : (r * 4294967296 + l[j]) / b < 4294967296 := by
  rw [Nat.div_lt_iff_lt_mul b0]
  have : (r + 1) * 4294967296 ≤ b * 4294967296 := Nat.mul_le_mul_right _ h.r1
  rw [Nat.mul_comm 4294967296 b]; omega
 refine ⟨by have := h.len; simp; omega, fun y hy => ?_, Nat.mod_lt _ b0, ?_⟩
 ·rcases List.mem_cons.1 hy with e | e
  ·omega
  ·exact h.ok y e
 ·rw [List.drop_eq_getElem_cons hj, val, val, ← h.eq, Nat.add_mul]
  have d := Nat.div_add_mod (r * 4294967296 + l[j]) b
  rw [Nat.mul_comm b] at d
  have : 4294967296 * val hi * b = 4294967296 * (val hi * b) := Nat.mul_assoc _ _ _
  rw [this]
  generalize val hi * b = V at *
  omega
theorem Sh.stop {l : List Nat} {b r : Nat} {hi : List Nat} (h : Sh l b 0 r hi) : val hi = val l / b ∧ r = val l % b := by
 have e := h.eq
 rw [List.drop_zero] at e
 have b0 : 0 < b := by have := h.r1; omega
 rw [← e]
 constructor
 ·rw [Nat.mul_comm, Nat.mul_add_div b0, Nat.div_eq_of_lt h.r1]; rfl
 ·rw [Nat.mul_comm, Nat.mul_add_mod, Nat.mod_eq_of_lt h.r1]
theorem Sh.digit {l : List Nat} {b j r : Nat} {hi : List Nat} (h : Sh l b (j + 1) r hi) (okl : Dg.ok l) (hj : j < l.length) : (r * 4294967296 + l[j]) / b < 4294967296 := (h.next okl hj).ok _ List.mem_cons_self
theorem set_at {l hi : List Nat} {j y : Nat} (hj : j < l.length) : (l.take (j + 1) ++ hi).set j y = l.take j ++ y :: hi := by
 rw [List.take_succ_eq_append_getElem hj, List.append_assoc, List.set_append_right _ _ (by rw [List.length_take]; omega), List.length_take, Nat.min_eq_left (by omega), Nat.sub_self]; rfl
end Go.Proofs.Ytkffcclalncgdaa.Dg
end
section
set_option linter.unusedVariables false
set_option linter.unusedSimpArgs false
namespace Go.Proofs.Ytkffcclalncgdaa.Nv
open Go
theorem ofn64 (a : Nat) (h : a < 18446744073709551616) : (BitVec.ofInt 64 (a : Int)).toNat = a := by
 rw [BitVec.ofInt_natCast, BitVec.toNat_ofNat]; exact Nat.mod_eq_of_lt (by omega)
theorem u64_wrap (n : Nat) (h : n < 18446744073709551616) : IntKind.u64.wrap (n : Int) = (n : Int) := by rw [IntKind.wrap_u64]; omega
theorem b_or64 (a b : Nat) (ha : a < 18446744073709551616) (hb : b < 18446744073709551616) : Go.bits .or .u64 (a : Int) (b : Int) = ((a ||| b : Nat) : Int) := by
 show IntKind.u64.wrap (((BitVec.ofInt 64 (a : Int)) ||| (BitVec.ofInt 64 (b : Int))).toNat : Int) = _
 rw [BitVec.toNat_or, ofn64 a ha, ofn64 b hb]
 exact u64_wrap _ (Nat.or_lt_two_pow (n := 64) (by omega) (by omega))
theorem or_halves (r x : Nat) (hr : r < 4294967296) (hx : x < 4294967296) : Go.bits .or .u64 ((r : Int) * 4294967296) (x : Int) = (r : Int) * 4294967296 + (x : Int) := by
 have h := b_or64 (r * 4294967296) x (by omega) (by omega)
 rw [Int.natCast_mul] at h
 rw [show ((4294967296 : Nat) : Int) = 4294967296 from rfl] at h
 rw [h]
 have e := Nat.shiftLeft_add_eq_or_of_lt (a := r) (b := x) (i := 32) (by omega)
 rw [Nat.shiftLeft_eq] at e
 rw [show r * 4294967296 = r * 2 ^ 32 from rfl, ← e]; omega
end Go.Proofs.Ytkffcclalncgdaa.Nv
end
section
set_option linter.unusedVariables false
set_option linter.unusedSimpArgs false
namespace Go.Proofs.Ytkffcclalncgdaa.Nv
open Go Go.RowKit Dg
theorem grown_set1 {w wr : World} {g j : Nat} {u : Value} (h : w.grownBy wr (some g)) : w.grownBy (wr.setCell ⟨g, j, none⟩ u) (some g) :=
 ⟨h.os, h.tape, h.output, by simpa using h.size, fun k hk hne => (Below.heap_setCell _ _ _ _ (fun e => hne (by rw [e]))).trans (h.block k hk hne)⟩
theorem grown_drew {w wr : World} {g : Nat} (h : w.grownBy wr (some g)) : w.grownBy wr.drew (some g) := ⟨h.os, h.tape, h.output, h.size, h.block⟩
theorem u64_q {q : Nat} (h : q < 4294967296) : IntKind.u64.wrap (q : Int) % 4294967296 = (q : Int) := by rw [u64_wrap _ (by omega)]; omega
end Go.Proofs.Ytkffcclalncgdaa.Nv
end
section
set_option linter.unusedVariables false
set_option linter.unusedSimpArgs false
namespace Go.Proofs.Ytkffcclalncgdaa.Dg
set_option maxRecDepth 10000
structure UpS (l : List Nat) (n j c : Nat) (o : List Nat) : Prop where
 len : o.length = j
 ok : Dg.ok o
 c1 : c < 2 ^ n
 eq : val o + 4294967296 ^ j * c = val (l.take j) * 2 ^ n
theorem p32 {n : Nat} (h : n < 32) : 2 ^ n ≤ 2147483648 ∧ 0 < 2 ^ n := ⟨(Nat.pow_le_pow_right (by omega) (show n ≤ 31 by omega) : 2 ^ n ≤ 2 ^ 31), Nat.pow_pos (by omega)⟩
theorem UpS.bound {l : List Nat} {n j c : Nat} {o : List Nat} (h : UpS l n j c o) (okl : Dg.ok l) (hn : n < 32) : c + at0 l j * 2 ^ n < 4294967296 * 2 ^ n ∧ at0 l j * 2 ^ n < 9223372036854775808 := by
 have x := at0_ok okl j
 have p := p32 hn
 have c1 := h.c1
 generalize 2 ^ n = P at *
 have h1 : at0 l j * P ≤ 4294967295 * P := Nat.mul_le_mul_right _ (by omega)
 omega
theorem UpS.next {l : List Nat} {n j c : Nat} {o : List Nat} (h : UpS l n j c o) (okl : Dg.ok l) (hn : n < 32) :
    UpS l n (j + 1) ((c + at0 l j * 2 ^ n) / 4294967296) (o ++ [(c + at0 l j * 2 ^ n) % 4294967296]) := by
 have b := (h.bound okl hn).1
 have e := h.eq
 refine ⟨by rw [List.length_append, h.len]; rfl, ok_snoc h.ok (Nat.mod_lt _ (by omega)), by omega, ?_⟩
 rw [val_snoc, h.len, val_take0, Nat.add_mul, ← e]
 generalize hS : c + at0 l j * 2 ^ n = S at *
 have d : 4294967296 ^ j * (S % 4294967296) + 4294967296 ^ (j + 1) * (S / 4294967296) = 4294967296 ^ j * S := by
  rw [Nat.pow_succ, Nat.mul_assoc, ← Nat.mul_add, Nat.mod_add_div]
 have f : 4294967296 ^ j * S = 4294967296 ^ j * c + 4294967296 ^ j * at0 l j * 2 ^ n := by rw [← hS, Nat.mul_add, Nat.mul_assoc]
 omega
theorem UpS.stop {l : List Nat} {n s c : Nat} {o : List Nat} (h : UpS l n s c o) (h1 : l.length ≤ s) (h3 : val l * 2 ^ n < 4294967296 ^ s) : val o = val l * 2 ^ n := by
 have e := h.eq
 rw [List.take_of_length_le h1] at e
 have c0 : c = 0 := by
  rcases Nat.eq_zero_or_pos c with c0 | c0
  ·exact c0
  ·have : 4294967296 ^ s * 1 ≤ 4294967296 ^ s * c := Nat.mul_le_mul_left _ c0
   omega
 rw [c0] at e; omega
structure DoS (l : List Nat) (n j : Nat) (o : List Nat) : Prop where
 len : o.length = j
 ok : Dg.ok o
 eq : val o = (val l / 2 ^ n) % 4294967296 ^ j
theorem val_drop {l : List Nat} (okl : Dg.ok l) (j : Nat) (hj : j ≤ l.length) : val (l.drop j) = val l / 4294967296 ^ j := by
 have h := val_split (l := l) j
 have lt := val_lt (ok_take okl j)
 rw [List.length_take, Nat.min_eq_left hj] at h lt
 rw [h, Nat.add_mul_div_left _ _ (Nat.pow_pos (by omega)), Nat.div_eq_of_lt lt, Nat.zero_add]
theorem val_drop_at {l : List Nat} {j : Nat} (hj : j < l.length) : val (l.drop j) = l[j] + 4294967296 * val (l.drop (j + 1)) := by
 rw [List.drop_eq_getElem_cons hj, val]
theorem DoS.next {l : List Nat} {n j : Nat} {o : List Nat} (h : DoS l n j o) (okl : Dg.ok l) (hn : n < 32) (hj : j < l.length) :
    DoS l n (j + 1) (o ++ [(l[j] + 4294967296 * at0 l (j + 1)) / 2 ^ n % 4294967296]) := by
 refine ⟨by rw [List.length_append, h.len]; rfl, ok_snoc h.ok (Nat.mod_lt _ (by omega)), ?_⟩
 rw [val_snoc, h.len, h.eq, Nat.mod_pow_succ]
 congr 2
 rw [Nat.div_div_eq_div_mul, Nat.mul_comm (2 ^ n), ← Nat.div_div_eq_div_mul, ← val_drop okl j (by omega), val_drop_at hj]
 have e : ∃ t, val (l.drop (j + 1)) = at0 l (j + 1) + 4294967296 * t := by
  by_cases hk : j + 1 < l.length
  ·exact ⟨_, by rw [val_drop_at hk, at0_lt hk]⟩
  ·exact ⟨0, by rw [List.drop_of_length_le (by omega), at0_ge (by omega)]; rfl⟩
 obtain ⟨t, e⟩ := e
 rw [e, Nat.mul_add, ← Nat.add_assoc]
 generalize l[j] + 4294967296 * at0 l (j + 1) = X
 obtain ⟨P, hP⟩ : ∃ P, 4294967296 = 2 ^ n * P := ⟨2 ^ (32 - n), by rw [← Nat.pow_add, show n + (32 - n) = 32 by omega]⟩
 have : 4294967296 * (4294967296 * t) = 2 ^ n * (4294967296 * (P * t)) := by
  conv => lhs; rw [← Nat.mul_assoc, Nat.mul_comm 4294967296 4294967296]
  rw [← Nat.mul_assoc (2 ^ n), Nat.mul_comm (2 ^ n) 4294967296, Nat.mul_assoc 4294967296 (2 ^ n), ← Nat.mul_assoc (2 ^ n), ← hP, Nat.mul_assoc]
 rw [this, Nat.add_mul_div_left _ _ (Nat.pow_pos (by omega)), Nat.add_mul_mod_self_left]
theorem DoS.stop {l : List Nat} {n : Nat} {o : List Nat} (h : DoS l n l.length o) (okl : Dg.ok l) : val o = val l / 2 ^ n := by
 rw [h.eq]
 exact Nat.mod_eq_of_lt (Nat.lt_of_le_of_lt (Nat.div_le_self _ _) (val_lt okl))
end Go.Proofs.Ytkffcclalncgdaa.Dg
end
section
set_option linter.unusedVariables false
set_option linter.unusedSimpArgs false
namespace Go.Proofs.Ytkffcclalncgdaa.Dg
open Nv
set_option maxRecDepth 10000
structure AwS (lp lq : List Nat) (d j c b : Nat) (o : List Nat) : Prop where
 len : o.length = j
 ok : Dg.ok o
 c1 : c < 4294967296
 b1 : b ≤ 1
 z : lq.length < j → c = 0
 eq : val o + val (lq.take j) * d = val (lp.take j) + 4294967296 ^ j * (c + b)
theorem AwS.bound {lp lq : List Nat} {d j c b : Nat} {o : List Nat} (h : AwS lp lq d j c b o) (hq : Dg.ok lq) (hd : d < 4294967296) : at0 lq j * d ≤ 18446744065119617025 ∧ (c + at0 lq j * d) / 4294967296 < 4294967296 := by
 have x := at0_ok hq j
 have c1 := h.c1
 have : at0 lq j * d ≤ 4294967295 * 4294967295 := Nat.mul_le_mul (by omega) (by omega)
 omega
theorem AwS.next {lp lq : List Nat} {d j c b : Nat} {o : List Nat} (h : AwS lp lq d j c b o) (hp : Dg.ok lp) (hq : Dg.ok lq) (hd : d < 4294967296) :
    AwS lp lq d (j + 1) ((c + at0 lq j * d) / 4294967296) (brw (at0 lp j) ((c + at0 lq j * d) % 4294967296) b) (o ++ [dif (at0 lp j) ((c + at0 lq j * d) % 4294967296) b]) := by
 have x := at0_ok hp j
 have e := h.eq
 have bd := (h.bound hq hd).2
 obtain ⟨d1, d2, d3⟩ := dif_eq (x := at0 lp j) (y := (c + at0 lq j * d) % 4294967296) (b := b) x (Nat.mod_lt _ (by omega)) h.b1
 refine ⟨by rw [List.length_append, h.len]; rfl, ok_snoc h.ok d2, bd, d3, fun lt => ?_, ?_⟩
 ·rw [at0_ge (by omega)]
  have := h.c1
  omega
 ·rw [val_snoc, h.len, val_take0, val_take0, Nat.add_mul]
  generalize at0 lp j = X at *
  have f : 4294967296 ^ j * (at0 lq j * d) = 4294967296 ^ j * at0 lq j * d := (Nat.mul_assoc _ _ _).symm
  generalize hS : at0 lq j * d = S at *
  rw [← f]
  generalize dif X ((c + S) % 4294967296) b = D at *
  generalize brw X ((c + S) % 4294967296) b = R at *
  have g : 4294967296 ^ (j + 1) * ((c + S) / 4294967296 + R) = 4294967296 ^ j * (4294967296 * ((c + S) / 4294967296) + 4294967296 * R) := by
   rw [Nat.pow_succ, Nat.mul_assoc, Nat.mul_add]
  rw [g]
  have k : 4294967296 ^ j * (D + S) = 4294967296 ^ j * (X + (4294967296 * ((c + S) / 4294967296) + 4294967296 * R)) - 4294967296 ^ j * (c + b) := by
   rw [← Nat.mul_sub]
   congr 1
   omega
  have k2 : 4294967296 ^ j * (c + b) ≤ 4294967296 ^ j * (X + (4294967296 * ((c + S) / 4294967296) + 4294967296 * R)) := Nat.mul_le_mul_left _ (by omega)
  rw [Nat.mul_add] at k
  rw [Nat.mul_add (4294967296 ^ j) X] at k k2
  omega
theorem AwS.stop {lp lq : List Nat} {d c b : Nat} {o : List Nat} (h : AwS lp lq d lp.length c b o) (hl : lq.length < lp.length) : val o + val lq * d = val lp + 4294967296 ^ lp.length * b := by
 have e := h.eq
 rw [h.z hl, List.take_of_length_le (by omega), List.take_length, Nat.zero_add] at e
 exact e
structure Est (W V P v1 v0 x u0 d r : Nat) : Prop where
 hx : x = d * v1 + r
 r1 : r < 4294967296
 lt : P < (d + 1) * V
structure Two (W V P v1 v0 x u0 : Nat) : Prop where
 w0 : 0 < W
 hv : ∃ t, V = (v1 * 4294967296 + v0) * W + t ∧ t < W
 hp : ∃ t, P = (x * 4294967296 + u0) * W + t ∧ t < W
 hb : P < V * 4294967296
 g1 : 2147483648 ≤ v1
 l1 : v1 < 4294967296
 l0 : v0 < 4294967296
 l2 : u0 < 4294967296
theorem Two.x {W V P v1 v0 x u0 : Nat} (h : Two W V P v1 v0 x u0) : x ≤ v1 * 4294967296 + v0 := by
 obtain ⟨t, ev, tw⟩ := h.hv
 obtain ⟨s, ep, sw⟩ := h.hp
 rcases Nat.lt_or_ge (v1 * 4294967296 + v0) x with l | l
 ·have b := h.hb
  have : (v1 * 4294967296 + v0 + 1) * W ≤ x * W := Nat.mul_le_mul_right _ l
  rw [Nat.add_mul, Nat.one_mul] at this
  have e2 : (x * 4294967296 + u0) * W = x * W * 4294967296 + u0 * W := by rw [Nat.add_mul, Nat.mul_right_comm]
  rw [e2] at ep
  obtain ⟨A, hA⟩ : ∃ A, A = (v1 * 4294967296 + v0) * W := ⟨_, rfl⟩
  obtain ⟨X, hX⟩ : ∃ X, X = x * W := ⟨_, rfl⟩
  obtain ⟨U, hU⟩ : ∃ U, U = u0 * W := ⟨_, rfl⟩
  rw [← hA] at ev this
  rw [← hX, ← hU] at ep
  rw [← hX] at this
  clear hA hX hU e2
  omega
 ·exact l
theorem Est.top {W V P v1 v0 x u0 d r : Nat} (e : Est W V P v1 v0 x u0 d r) (h : Two W V P v1 v0 x u0) : d ≤ 4294967297 := by
 have hx := h.x
 have e1 := e.hx
 have g1 := h.g1
 have l0 := h.l0
 rcases Nat.lt_or_ge 4294967297 d with l | l
 ·have : 4294967298 * v1 ≤ d * v1 := Nat.mul_le_mul_right _ l
  omega
 ·exact l
theorem Est.big {W V P v1 v0 x u0 d r : Nat} (e : Est W V P v1 v0 x u0 d r) (h : Two W V P v1 v0 x u0) (hd : 4294967296 ≤ d) : d * V ≥ V * 4294967296 := by
 rw [Nat.mul_comm d]; exact Nat.mul_le_mul_left _ hd
theorem Est.less {W V P v1 v0 x u0 d r : Nat} (e : Est W V P v1 v0 x u0 d r) (h : Two W V P v1 v0 x u0) (hd : 4294967296 ≤ d ∨ d * v0 > r * 4294967296 + u0) : 0 < d ∧ x = (d - 1) * v1 + (r + v1) ∧ P < (d - 1 + 1) * V := by
 have hx := e.hx
 have d0 : 0 < d := by
  rcases Nat.eq_zero_or_pos d with z | z
  ·rw [z] at hd; rw [Nat.zero_mul] at hd; omega
  ·exact z
 obtain ⟨k, rfl⟩ : ∃ k, d = k + 1 := ⟨d - 1, by omega⟩
 rw [Nat.add_sub_cancel]
 refine ⟨d0, by rw [hx, Nat.add_mul]; omega, ?_⟩
 rcases hd with hd | hd
 ·have := e.big h hd
  have := h.hb
  omega
 ·obtain ⟨t, ev, tw⟩ := h.hv
  obtain ⟨s, ep, sw⟩ := h.hp
  have h1 : x * 4294967296 + u0 + 1 ≤ (k + 1) * (v1 * 4294967296 + v0) := by
   rw [Nat.mul_add, ← Nat.mul_assoc]
   rw [hx]
   generalize (k + 1) * v0 = A at *
   generalize (k + 1) * v1 = C at *
   omega
  have h2 : (x * 4294967296 + u0 + 1) * W ≤ (k + 1) * (v1 * 4294967296 + v0) * W := Nat.mul_le_mul_right _ h1
  have h3 : (k + 1) * V = (k + 1) * (v1 * 4294967296 + v0) * W + (k + 1) * t := by rw [ev, Nat.mul_add, Nat.mul_assoc]
  rw [Nat.add_mul _ 1, Nat.one_mul] at h2
  omega
theorem Est.next {W V P v1 v0 x u0 d r : Nat} (e : Est W V P v1 v0 x u0 d r) (h : Two W V P v1 v0 x u0) (hd : 4294967296 ≤ d ∨ d * v0 > r * 4294967296 + u0) (hr : r + v1 < 4294967296) : Est W V P v1 v0 x u0 (d - 1) (r + v1) := by
 obtain ⟨_, a, b⟩ := e.less h hd
 exact ⟨a, hr, b⟩
structure Got (V P d : Nat) : Prop where
 d1 : d < 4294967296
 le : P < (d + 1) * V
 ge : d * V < P + V
theorem got {W V P v1 v0 x u0 d r : Nat} (h : Two W V P v1 v0 x u0) (hx : x = d * v1 + r) (hP : P < (d + 1) * V) (hd : d < 4294967296) (le : d * v0 ≤ r * 4294967296 + u0) : Got V P d := by
 refine ⟨hd, hP, ?_⟩
 obtain ⟨t, ev, tw⟩ := h.hv
 obtain ⟨s, ep, sw⟩ := h.hp
 have h1 : d * (v1 * 4294967296 + v0) ≤ x * 4294967296 + u0 := by
  rw [Nat.mul_add, ← Nat.mul_assoc, hx]
  generalize d * v0 = A at *
  generalize d * v1 = C at *
  omega
 have h2 : d * (v1 * 4294967296 + v0) * W ≤ (x * 4294967296 + u0) * W := Nat.mul_le_mul_right _ h1
 have h3 : d * V = d * (v1 * 4294967296 + v0) * W + d * t := by rw [ev, Nat.mul_add, Nat.mul_assoc]
 have h4 : d * t ≤ 4294967295 * W := Nat.mul_le_mul (by omega) (by omega)
 have h5 : 4294967296 * W ≤ (v1 * 4294967296 + v0) * W := Nat.mul_le_mul_right _ (by have := h.g1; omega)
 have := h.w0
 omega
theorem Est.stop {W V P v1 v0 x u0 d r : Nat} (e : Est W V P v1 v0 x u0 d r) (h : Two W V P v1 v0 x u0) (hd : d < 4294967296) (le : d * v0 ≤ r * 4294967296 + u0) : Got V P d := got h e.hx e.lt hd le
end Go.Proofs.Ytkffcclalncgdaa.Dg
end
section
set_option linter.unusedVariables false
set_option linter.unusedSimpArgs false
namespace Go.Proofs.Ytkffcclalncgdaa.Dg
set_option maxRecDepth 10000
structure Nrm (vv : List Nat) : Prop where
 okv : ok vv
 two : 2 ≤ vv.length
 top : 2147483648 ≤ at0 vv (vv.length - 1)
structure LoS (vv : List Nat) (U m t : Nat) (u hi : List Nat) : Prop where
 lu : u.length = m + vv.length
 oku : ok u
 lh : hi.length + t = m
 okh : ok hi
 rem : val (u.drop t) < val vv
 eq : val u + 4294967296 ^ t * (val hi * val vv) = U
theorem LoS.tail {vv : List Nat} {U m j : Nat} {u hi : List Nat} (h : LoS vv U m (j + 1) u hi) (hn : Nrm vv) : val (u.drop (j + vv.length + 1)) = 0 := by
 have r := h.rem
 have lt := val_lt hn.okv
 have len := h.lh
 have lu := h.lu
 have e := val_drop (ok_drop h.oku (j + 1)) vv.length (by rw [List.length_drop]; omega)
 rw [List.drop_drop] at e
 rw [show j + vv.length + 1 = j + 1 + vv.length by omega, e]
 exact Nat.div_eq_of_lt (by omega)
theorem LoS.part {vv : List Nat} {U m j : Nat} {u hi : List Nat} (h : LoS vv U m (j + 1) u hi) (hn : Nrm vv) : val (u.drop j) = val ((u.drop j).take (vv.length + 1)) ∧ val u = val (u.take j) + 4294967296 ^ j * val ((u.drop j).take (vv.length + 1)) ∧ ((u.drop j).take (vv.length + 1)).length = vv.length + 1 ∧ (u.take j).length = j ∧ u = u.take j ++ ((u.drop j).take (vv.length + 1) ++ u.drop (j + vv.length + 1)) := by
 have t := h.tail hn
 have len := h.lh
 have lu := h.lu
 have l2 : ((u.drop j).take (vv.length + 1)).length = vv.length + 1 := by rw [List.length_take, List.length_drop]; omega
 have l1 : (u.take j).length = j := by rw [List.length_take]; omega
 have e := val_split (l := u.drop j) (vv.length + 1)
 rw [List.drop_drop, ← Nat.add_assoc, t, Nat.mul_zero, Nat.add_zero] at e
 refine ⟨e, ?_, l2, l1, ?_⟩
 ·rw [← e, val_split (l := u) j, l1]
 ·have a := List.take_append_drop (vv.length + 1) (u.drop j)
  rw [List.drop_drop, ← Nat.add_assoc] at a
  rw [a, List.take_append_drop]
theorem LoS.next {vv : List Nat} {U m j q : Nat} {u hi o : List Nat} (h : LoS vv U m (j + 1) u hi) (hn : Nrm vv) (lo : o.length = vv.length + 1) (oko : ok o) (hq : q < 4294967296) (lt : val o < val vv)
    (e : val o + q * val vv = val ((u.drop j).take (vv.length + 1))) : LoS vv U m j (u.take j ++ (o ++ u.drop (j + vv.length + 1))) (q :: hi) := by
 obtain ⟨p1, p2, p3, p4, p5⟩ := h.part hn
 have t := h.tail hn
 have len := h.lh
 have lu := h.lu
 have eq := h.eq
 refine ⟨by simp only [List.length_append, List.length_drop, p4, lo]; omega, ?_, by simp only [List.length_cons]; omega, ?_, ?_, ?_⟩
 ·intro x hx
  rcases List.mem_append.1 hx with a | a
  ·exact ok_take h.oku _ x a
  ·rcases List.mem_append.1 a with a | a
   ·exact oko x a
   ·exact ok_drop h.oku _ x a
 ·intro x hx
  rcases List.mem_cons.1 hx with a | a
  ·omega
  ·exact h.okh x a
 ·rw [List.drop_left' p4, val_append, t, Nat.mul_zero, Nat.add_zero]; exact lt
 ·rw [val_append, val_append, t, Nat.mul_zero, Nat.add_zero, p4, val]
  rw [p2, ← e] at eq
  rw [← eq, Nat.pow_succ, Nat.add_mul, Nat.mul_add, Nat.mul_add]
  have : 4294967296 ^ j * (4294967296 * val hi * val vv) = 4294967296 ^ j * 4294967296 * (val hi * val vv) := by rw [Nat.mul_assoc, Nat.mul_assoc]
  rw [this]; omega
theorem LoS.stop {vv : List Nat} {U m : Nat} {u hi : List Nat} (h : LoS vv U m 0 u hi) : val hi = U / val vv ∧ val u = U % val vv := by
 have e := h.eq
 have r := h.rem
 rw [List.drop_zero] at r
 rw [Nat.pow_zero, Nat.one_mul] at e
 have v0 : 0 < val vv := by omega
 rw [← e]
 constructor
 ·rw [Nat.add_mul_div_right _ _ v0, Nat.div_eq_of_lt r, Nat.zero_add]
 ·rw [Nat.add_mul_mod_self_right, Nat.mod_eq_of_lt r]
end Go.Proofs.Ytkffcclalncgdaa.Dg
end
section
set_option linter.unusedVariables false
set_option linter.unusedSimpArgs false
namespace Go.Proofs.Ytkffcclalncgdaa.Nv
open Go Go.RowKit Dg
theorem Rd.kept {w w' : World} {A : Option Addr} {l : List Nat} {r : Nat} (h : Rd w A l) (hg : w.grownBy w' (some r)) (ne : ∀ ad, A = some ad → 0 < l.length → ad.block ≠ r) : Rd w' A l := ⟨h.len, fun hl => by
 obtain ⟨ad, e, hc⟩ := h.at_ hl
 refine ⟨ad, e, fun j x hj => ?_⟩
 have c := hc j x hj
 have lt := World.block_lt_of_cell? w _ c
 rw [World.cell?_of_block (hg.block _ lt (by rw [add_block]; intro e2; exact ne ad e hl (Option.some.inj e2)))]
 exact c⟩
theorem Row.mono {w : World} {base base' g c : Nat} {l : List Nat} (h : Row w base g c l) (hb : base' ≤ base) : Row w base' g c l := by
 refine ⟨h.1, ?_⟩
 rcases h.2 with h2 | ⟨g', c', cur, e, hb', rest⟩
 ·exact .inl h2
 ·exact .inr ⟨g', c', cur, e, Nat.le_trans hb hb', rest⟩
structure LM (w wr : World) (gv gu gq m : Nat) (vv u o : List Nat) : Prop where
 rv : Rd wr (some ⟨gv, 0, none⟩) vv
 ru : Row wr w.heap.size gu u.length u
 ro : Row wr w.heap.size gq m o
 k3 : wr.heap[w.heap.size + 1 + 1]? = some (.cells #[.slice none 0 0] 52 (0, 0))
 k4 : wr.heap[w.heap.size + 1 + 1 + 1]? = some (.cells #[.slice none 0 0] 52 (0, 0))
 bw : Below w.heap.size w wr
 n1 : gv ≠ gu
 n2 : gv ≠ gq
 n3 : gu ≠ gq
 lt : w.heap.size + 1 + 1 + 1 < gv ∧ w.heap.size + 1 + 1 + 1 < gu ∧ w.heap.size + 1 + 1 + 1 < gq
theorem LM.drewN {w wr : World} {gv gu gq m : Nat} {vv u o : List Nat} (h : LM w wr gv gu gq m vv u o) (n : Nat) : LM w (wr.drewN n) gv gu gq m vv u o :=
 ⟨h.rv.drewN n, h.ru.below (drewN_below (Below.refl _ _) n), h.ro.below (drewN_below (Below.refl _ _) n), h.k3, h.k4, drewN_below h.bw n, h.n1, h.n2, h.n3, h.lt⟩
theorem LM.drew {w wr : World} {gv gu gq m : Nat} {vv u o : List Nat} (h : LM w wr gv gu gq m vv u o) : LM w wr.drew gv gu gq m vv u o :=
 ⟨h.rv.drew, h.ru.drew, h.ro.drew, h.k3, h.k4, h.bw.drew, h.n1, h.n2, h.n3, h.lt⟩
end Go.Proofs.Ytkffcclalncgdaa.Nv
end
section
set_option linter.unusedVariables false
set_option linter.unusedSimpArgs false
namespace Go.Proofs.Ytkffcclalncgdaa.Nv
open Go Go.RowKit Dg
theorem Rd.cells1 {w : World} {ad : Addr} {l : List Nat} (h : Rd w (some ad) l) : ∀ j u, (us l)[j]? = some u → w.cell? (ad.add j) = some u := fun j u hu => by
 have lt : j < l.length := by
  have := (List.getElem?_eq_some_iff.1 hu).1
  rwa [us_len] at this
 obtain ⟨ad', e, hc⟩ := h.get lt
 cases e
 rw [us, List.getElem?_map, List.getElem?_eq_getElem lt] at hu
 rw [hc]; exact hu
theorem Row.of_owned {w : World} {base : Nat} {v : Value} {l : List Nat} (h : w.ownsRow base 86 1 v l.length (us l)) (hl : 0 < l.length) : ∃ g c, v = .slice (some ⟨g, 0, none⟩) l.length c ∧ Row w base g c l := by
 have h' := h
 rcases h.2 with h2 | ⟨g, c', cur, e, _⟩
 ·have := h2.2; omega
 ·subst e; exact ⟨g, c', rfl, h'⟩
end Go.Proofs.Ytkffcclalncgdaa.Nv
end
section
set_option linter.unusedVariables false
set_option linter.unusedSimpArgs false
namespace Go.Proofs.Ytkffcclalncgdaa.Dg
set_option maxRecDepth 10000
theorem gcd_emod' (c m : Int) : Int.gcd (c % m) m = Int.gcd c m := by
 have d := Int.emod_add_mul_ediv c m
 have h := Int.gcd_add_mul_left_left m (c % m) (c / m)
 rw [d] at h; exact h.symm
structure Cof (c m r s u v w z : Int) : Prop where
 r0 : 0 < r
 s0 : 0 ≤ s
 sr : s < r
 rm : r ≤ m
 er : u * c + w * m = r
 es : v * c + z * m = s
 g : Int.gcd r s = Int.gcd c m
 si : (u ≤ 0 ∧ 0 ≤ v ∧ v * r - u * s = m ∧ -u ≤ v) ∨ (0 ≤ u ∧ v ≤ 0 ∧ u * s - v * r = m ∧ u ≤ -v)
 one : m = 1 → s = 0 ∧ u = 0
theorem Cof.next {c m r s u v w z : Int} (h : Cof c m r s u v w z) (s1 : s ≠ 0) : Cof c m s (r % s) v (u - r / s * v) z (w - r / s * z) := by
 have sp : 0 < s := by have := h.s0; omega
 have e := Int.emod_nonneg r s1
 have l := Int.emod_lt_of_pos r sp
 have d := Int.mul_ediv_add_emod r s
 have q1 : 1 ≤ r / s := by
  rw [Int.le_ediv_iff_mul_le sp]; have := h.sr; omega
 have er := h.er
 have es := h.es
 have gg := h.g
 generalize hq : r / s = q at *
 generalize ht : r % s = t at *
 have dr : r = s * q + t := by omega
 refine ⟨sp, e, l, by have := h.sr; have := h.rm; omega, es, ?_, ?_, ?_, fun m1 => absurd (h.one m1).1 s1⟩
 ·have : (u - q * v) * c + (w - q * z) * m = (u * c + w * m) - q * (v * c + z * m) := by grind
  rw [this, er, es, dr]; grind
 ·rw [← gg, ← ht, Int.gcd_comm s (r % s), gcd_emod']
 ·rcases h.si with ⟨a, b, k, o⟩ | ⟨a, b, k, o⟩
  ·refine .inr ⟨b, ?_, ?_, ?_⟩
   ·have : 0 ≤ q * v := Int.mul_nonneg (by omega) b
    omega
   ·rw [dr] at k; grind
   ·have : 1 * v ≤ q * v := Int.mul_le_mul_of_nonneg_right q1 b
    omega
  ·refine .inl ⟨b, ?_, ?_, ?_⟩
   ·have : q * v ≤ 0 := Int.mul_nonpos_of_nonneg_of_nonpos (by omega) b
    omega
   ·rw [dr] at k; grind
   ·have : 1 * (-v) ≤ q * (-v) := Int.mul_le_mul_of_nonneg_right q1 (by omega)
    simp only [Int.mul_neg] at this
    omega
theorem Cof.vm {c m r s u v w z : Int} (h : Cof c m r s u v w z) : v.natAbs ≤ m.natAbs ∧ u.natAbs ≤ m.natAbs := by
 have r1 := h.r0
 have s1 := h.s0
 have rm := h.rm
 rcases h.si with ⟨a, b, k, o⟩ | ⟨a, b, k, o⟩
 ·have h1 : v * 1 ≤ v * r := Int.mul_le_mul_of_nonneg_left (by omega) b
  have h2 : 0 ≤ (-u) * s := Int.mul_nonneg (by omega) s1
  rw [Int.neg_mul] at h2
  omega
 ·have h1 : (-v) * 1 ≤ (-v) * r := Int.mul_le_mul_of_nonneg_left (by omega) (by omega)
  have h2 : 0 ≤ u * s := Int.mul_nonneg a s1
  rw [Int.neg_mul, Int.neg_mul] at h1
  omega
theorem co_bound {c m r u w : Int} (hm : 0 < m) (r0 : 0 ≤ r) (rm : r ≤ m) (e : u * c + w * m = r) (l : u.natAbs ≤ m.natAbs) : w.natAbs ≤ 1 + c.natAbs := by
 have h1 : w.natAbs * m.natAbs ≤ (1 + c.natAbs) * m.natAbs := by
  have : w * m = r - u * c := by omega
  have h2 : (w * m).natAbs ≤ r.natAbs + (u * c).natAbs := by rw [this]; omega
  rw [Int.natAbs_mul, Int.natAbs_mul] at h2
  have h3 : u.natAbs * c.natAbs ≤ m.natAbs * c.natAbs := Nat.mul_le_mul_right _ l
  rw [Nat.add_mul, Nat.one_mul, Nat.mul_comm c.natAbs]
  omega
 exact Nat.le_of_mul_le_mul_right h1 (by omega)
theorem Cof.wz {c m r s u v w z : Int} (h : Cof c m r s u v w z) : w.natAbs ≤ 1 + c.natAbs ∧ z.natAbs ≤ 1 + c.natAbs := by
 have hv := h.vm
 have m0 : 0 < m := by have := h.r0; have := h.rm; omega
 have := h.sr
 exact ⟨co_bound m0 (by have := h.r0; omega) h.rm h.er hv.2, co_bound m0 h.s0 (by have := h.rm; omega) h.es hv.1⟩
theorem Cof.stop {c m r u v w z : Int} (h : Cof c m r 0 u v w z) (g : Int.gcd c m = 1) : r = 1 ∧
    (u < 0 → 0 ≤ u + m ∧ u + m < m ∧ c * (u + m) + m * (w - c) = 1) ∧ (¬ u < 0 → 0 ≤ u ∧ u < m ∧ c * u + m * w = 1) := by
 have e := h.g
 rw [g, Int.gcd_zero_right] at e
 have r1 : r = 1 := by have := h.r0; omega
 subst r1
 have er := h.er
 have vm := h.vm
 refine ⟨rfl, fun n => ⟨by have := h.rm; omega, by omega, by grind⟩, fun n => ⟨by omega, ?_, by grind⟩⟩
 have := h.rm
 rcases Int.lt_or_le u m with l | l
 ·exact l
 ·have um : u = m := by omega
  subst um
  have d : u ∣ 1 := ⟨c + w, by rw [← er]; grind⟩
  have := Int.eq_one_of_dvd_one (by omega) d
  have := (h.one this).2
  omega
theorem bl_succ' (q : Nat) : bl (q + 1) ≤ bl q + 1 := bl_le.2 (by
 have := bl_lt q
 rw [Nat.pow_succ]; omega)
theorem bl_mono' {a b : Nat} (h : a ≤ b) : bl a ≤ bl b := bl_le.2 (Nat.lt_of_le_of_lt h (bl_lt b))
theorem bl_addk {a b k : Nat} (ha : bl a ≤ k) (hb : bl b ≤ k) : bl (a + b) ≤ k + 1 := bl_le.2 (by
 have h1 := bl_le.1 ha
 have h2 := bl_le.1 hb
 rw [Nat.pow_succ]; omega)
theorem bl_mulk {a b j k : Nat} (ha : bl a ≤ j) (hb : bl b ≤ k) : bl (a * b) ≤ j + k := bl_le.2 (by
 have h1 := bl_le.1 ha
 have h2 := bl_le.1 hb
 rw [Nat.pow_add]
 rcases Nat.eq_zero_or_pos b with z | z
 ·subst z; rw [Nat.mul_zero]; exact Nat.mul_pos (Nat.pow_pos (by omega)) (Nat.pow_pos (by omega))
 ·exact Nat.lt_of_lt_of_le ((Nat.mul_lt_mul_right z).2 h1) (Nat.mul_le_mul_left _ (by omega)))
structure CofBits (c m r s u v w z : Int) : Prop where
 br : bl r.natAbs ≤ 1000
 bs : bl s.natAbs ≤ 1000
 bq : bl (r / s).natAbs ≤ 1000
 bv : bl v.natAbs ≤ 1000
 bz : bl z.natAbs ≤ 1001
 uv : bl (u.natAbs + (r / s * v).natAbs) ≤ 4000
 wz : bl (w.natAbs + (r / s * z).natAbs) ≤ 4000
 um : bl (u.natAbs + m.natAbs) ≤ 4000
 wc : bl (w.natAbs + c.natAbs) ≤ 4000
theorem Cof.bits {c m r s u v w z : Int} (h : Cof c m r s u v w z) (lc : bl c.natAbs ≤ 1000) (lm : bl m.natAbs ≤ 1000) : CofBits c m r s u v w z := by
 obtain ⟨hv, hu⟩ := h.vm
 obtain ⟨hw, hz⟩ := h.wz
 have r0 := h.r0
 have s0 := h.s0
 have sr := h.sr
 have rm := h.rm
 have br : bl r.natAbs ≤ 1000 := Nat.le_trans (bl_mono' (by omega)) lm
 have bs : bl s.natAbs ≤ 1000 := Nat.le_trans (bl_mono' (by omega)) lm
 have bu : bl u.natAbs ≤ 1000 := Nat.le_trans (bl_mono' hu) lm
 have bv : bl v.natAbs ≤ 1000 := Nat.le_trans (bl_mono' hv) lm
 have c1 : bl (1 + c.natAbs) ≤ 1001 := by have := bl_succ' c.natAbs; rw [Nat.add_comm]; omega
 have bw : bl w.natAbs ≤ 1001 := Nat.le_trans (bl_mono' hw) c1
 have bz : bl z.natAbs ≤ 1001 := Nat.le_trans (bl_mono' hz) c1
 have q0 : (r / s).natAbs ≤ r.natAbs := by
  have h1 := Int.ediv_le_self s (show 0 ≤ r by omega)
  have h2 : 0 ≤ r / s := Int.ediv_nonneg (by omega) s0
  omega
 have bq : bl (r / s).natAbs ≤ 1000 := Nat.le_trans (bl_mono' q0) br
 refine ⟨br, bs, bq, bv, bz, ?_, ?_, ?_, ?_⟩
 ·rw [Int.natAbs_mul]
  have := bl_addk (k := 2001) (show bl u.natAbs ≤ 2001 by omega) (Nat.le_trans (bl_mulk bq bv) (by omega)); omega
 ·rw [Int.natAbs_mul]
  have := bl_addk (k := 2001) (show bl w.natAbs ≤ 2001 by omega) (Nat.le_trans (bl_mulk bq bz) (by omega)); omega
 ·have := bl_addk (k := 1000) bu lm; omega
 ·have := bl_addk (k := 1001) bw (show bl c.natAbs ≤ 1001 by omega); omega
end Go.Proofs.Ytkffcclalncgdaa.Dg
end
section
set_option maxHeartbeats 4000000
set_option linter.unusedVariables false
set_option linter.unusedSimpArgs false
namespace Go.Proofs.Ytkffcclalncgdaa.Iv
open Go Go.Iv Go.RowKit Go.Proofs.Ytkffcclalncgdaa.Nv
open Dg (bl)
def nav (n : Nat) : AV := dgs (Dg.dg n)
abbrev zs (x : Int) : AV := .flat (.bool (decide (x < 0)))
theorem nav_one (n : Nat) : AV.one (nav n) = true := rfl
theorem nav_clean (n : Nat) : AV.clean (nav n) = true := rfl
theorem dgs_inj {l m : List Nat} (h : dgs l = dgs m) : l = m := by
 simp only [dgs, AV.isl.injEq] at h
 have h1 := h.1
 have : ∀ {l m : List Nat}, l.map dcell = m.map dcell → l = m := by
  intro l
  induction l with
  | nil => intro m h; cases m with
   | nil => rfl
   | cons x m => simp at h
  | cons x l ih => intro m h; cases m with
   | nil => simp at h
   | cons y m =>
    simp only [List.map_cons, List.cons.injEq, dcell, AV.flat.injEq, Value.int.injEq, true_and] at h
    rw [ih h.2, show x = y by omega]
 exact this h1
theorem nav_inj {n m : Nat} (h : nav n = nav m) : n = m := by
 have := dgs_inj h
 rw [← Dg.val_dg' n, ← Dg.val_dg' m, this]
theorem nav_eq {n m : Nat} : nav n = nav m ↔ n = m := ⟨nav_inj, fun h => by rw [h]⟩
variable {D : Nat → Prop} {ρ : Ren} {h : Hp} {w : World}
theorem nav_open (k : HR D ρ h w) {n : Nat} (hl : bl n ≤ 100000) {v : Value} (hv : (nav n).rel ρ v) : Num w v n := by
 obtain ⟨A, c, rfl, h1, h2⟩ := dgs_open k hv
 have := Dg.len_of_bl (n := n) (k := 3125) (by omega)
 exact ⟨A, c, rfl, h1, by omega, h2⟩
theorem nav_shut (k : HR D ρ h w) {n : Nat} {v : Value} (hn : Num w v n) : ∃ ρ', Step D ρ h w ρ' h w ∧ (nav n).rel ρ' v := by
 obtain ⟨A, c, rfl, h1, h2⟩ := hn
 exact dgs_shut k h1 h2.at_
theorem relL1 {a : AV} {l : List Value} (h : AV.relL ρ [a] l) : ∃ x, l = [x] ∧ a.rel ρ x := by
 obtain ⟨x, xs, rfl, h1, h2⟩ := relL_cons.1 h
 rw [relL_nil.1 h2]; exact ⟨x, rfl, h1⟩
theorem relL2 {a b : AV} {l : List Value} (h : AV.relL ρ [a, b] l) : ∃ x y, l = [x, y] ∧ a.rel ρ x ∧ b.rel ρ y := by
 obtain ⟨x, xs, rfl, h1, h2⟩ := relL_cons.1 h
 obtain ⟨y, rfl, h3⟩ := relL1 h2
 exact ⟨x, y, rfl, h1, h3⟩
theorem an_open (k : HR D ρ h w) {n : Nat} (hl : bl n ≤ 100000) {V : Value} (hv : (AV.agg [nav n]).rel ρ V) : ∃ v, V = .agg #[v] ∧ Num w v n := by
 simp only [AV.rel] at hv
 obtain ⟨l, rfl, h1⟩ := hv
 obtain ⟨v, rfl, h2⟩ := relL1 h1
 exact ⟨v, rfl, nav_open k hl h2⟩
theorem an_shut (k : HR D ρ h w) {n : Nat} {v : Value} (hn : Num w v n) : ∃ ρ', Step D ρ h w ρ' h w ∧ (AV.agg [nav n]).rel ρ' (.agg #[v]) := by
 obtain ⟨ρ', st, hv⟩ := nav_shut k hn
 refine ⟨ρ', st, ?_⟩
 simp only [AV.rel]
 exact ⟨[v], rfl, relL_cons.2 ⟨_, _, rfl, hv, relL_nil.2 rfl⟩⟩
theorem relL2mk {a b : AV} {V1 V2 : Value} (h1 : a.rel ρ V1) (h2 : b.rel ρ V2) : AV.relL ρ [a, b] [V1, V2] := relL_cons.2 ⟨_, _, rfl, h1, relL_cons.2 ⟨_, _, rfl, h2, relL_nil.2 rfl⟩⟩
theorem rel_tuple2 {a b : AV} {V1 V2 : Value} (h1 : a.rel ρ V1) (h2 : b.rel ρ V2) : (AV.tuple [a, b]).rel ρ (.tuple #[V1, V2]) := by
 simp only [AV.rel]; exact ⟨_, rfl, relL2mk h1 h2⟩
theorem rel_flat (v : Value) : (AV.flat v).rel ρ v := by simp [AV.rel]
section
variable {P : Program} {f : FuncId}
theorem nn_ne {a b c : Nat} (la : bl a ≤ 100000) (lb : bl b ≤ 100000) (k : ∀ (v u : Value) (w : World), Num w v a → Num w u b → Calls P f #[.agg #[v], .agg #[u]] w fun e w' => ∃ v', e = .returned (.tuple #[.agg #[v'], .int .i64 0]) ∧ Num w' v' c ∧ Below w.heap.size w w') (h : Hp) :
    SemCall P f [.agg [nav a], .agg [nav b]] h (.ret (.tuple [.agg [nav c], .flat (.int .i64 0)])) h := by
 refine semcall_of fun D ρ w args' hr ha => ?_
 obtain ⟨V, U, rfl, h1, h2⟩ := relL2 ha
 obtain ⟨v, rfl, hv⟩ := an_open hr la h1
 obtain ⟨u, rfl, hu⟩ := an_open hr lb h2
 refine (k v u w hv hu).mono ?_
 rintro e w' ⟨v', rfl, hz, hb⟩
 refine ⟨_, rfl, hb, fun ρ1 hr1 hle => ?_⟩
 obtain ⟨ρ2, st, r2⟩ := an_shut hr1 hz
 exact ⟨ρ2, st, rel_tuple2 r2 (rel_flat _)⟩
end
theorem nOf_sem (n : Nat) (hn : n < 18446744073709551616) (h : Hp) : SemCall Try.prog 29 [.flat (.int .u64 (n : Int))] h (.ret (.agg [nav n])) h := by
 refine semcall_of fun D ρ w args' hr ha => ?_
 obtain ⟨V, rfl, h1⟩ := relL1 ha
 simp only [AV.rel] at h1
 subst h1
 refine (of_calls n hn w).mono ?_
 rintro e w' ⟨v, rfl, hz, hb⟩
 exact ⟨_, rfl, hb, fun ρ1 hr1 hle => an_shut hr1 hz⟩
theorem nMul_sem (a b : Nat) (hs : bl a + bl b ≤ 4096) (h : Hp) : SemCall Try.prog 34 [.agg [nav a], .agg [nav b]] h (.ret (.tuple [.agg [nav (a * b)], .flat (.int .i64 0)])) h :=
 nn_ne (by omega) (by omega) (fun v u w h1 h2 => mul_calls v u a b w h1 h2 hs) h
end Go.Proofs.Ytkffcclalncgdaa.Iv
end
section
set_option maxHeartbeats 8000000
set_option linter.unusedVariables false
set_option linter.unusedSimpArgs false
set_option maxRecDepth 10000
namespace Go.Proofs.Ytkffcclalncgdaa.Iv
open Go Go.Iv Go.RowKit Go.Proofs.Ytkffcclalncgdaa.Nv Dg
mutual
def nr : AV → Bool
 | .flat _ => true
 | .ptr _ _ => true
 | .slice _ _ _ _ => true
 | .map _ => true
 | .top => true
 | .func _ a b => nrL a && nrL b
 | .iface _ v => nr v
 | .agg l => nrL l
 | .tuple l => nrL l
 | .iptr _ _ => false
 | .isl _ _ _ _ => false
def nrL : List AV → Bool
 | [] => true
 | x :: xs => nr x && nrL xs
end
mutual
theorem rel_nr {ρ ρ' : Ren} (h : ∀ i, ρ' i = ρ i) : ∀ (x : AV) (v : Value), nr x = true → AV.rel ρ x v → AV.rel ρ' x v
 | .flat u, v, _, k => by simpa [AV.rel] using k
 | .ptr b o, v, p, k => by simpa only [AV.rel, h] using k
 | .slice b o len (.exact c), v, p, k => by simpa only [AV.rel, h] using k
 | .slice b o len (.toEnd c), v, p, k => by simpa only [AV.rel, h] using k
 | .map r, v, p, k => by simpa only [AV.rel, h] using k
 | .top, v, p, k => by simpa only [AV.rel] using k
 | .func fn first cap, v, p, k => by
  simp only [nr, Bool.and_eq_true] at p
  simp only [AV.rel] at k ⊢
  obtain ⟨f', c', h0, h1, h2⟩ := k
  exact ⟨f', c', h0, relL_nr h _ _ p.1 h1, relL_nr h _ _ p.2 h2⟩
 | .iface t x, v, p, k => by
  simp only [nr] at p
  simp only [AV.rel] at k ⊢
  obtain ⟨y, h0, h1⟩ := k
  exact ⟨y, h0, rel_nr h _ _ p h1⟩
 | .agg l, v, p, k => by
  simp only [nr] at p
  simp only [AV.rel] at k ⊢
  obtain ⟨y, h0, h1⟩ := k
  exact ⟨y, h0, relL_nr h _ _ p h1⟩
 | .tuple l, v, p, k => by
  simp only [nr] at p
  simp only [AV.rel] at k ⊢
  obtain ⟨y, h0, h1⟩ := k
  exact ⟨y, h0, relL_nr h _ _ p h1⟩
 | .iptr l o, v, p, k => by simp [nr] at p
 | .isl l z o n, v, p, k => by simp [nr] at p
theorem relL_nr {ρ ρ' : Ren} (h : ∀ i, ρ' i = ρ i) : ∀ (x : List AV) (v : List Value), nrL x = true → AV.relL ρ x v → AV.relL ρ' x v
 | [], v, _, k => by simpa [AV.relL] using k
 | x :: xs, v, p, k => by
  simp only [nrL, Bool.and_eq_true] at p
  simp only [AV.relL] at k ⊢
  obtain ⟨y, ys, h0, h1, h2⟩ := k
  exact ⟨y, ys, h0, rel_nr h _ _ p.1 h1, relL_nr h _ _ p.2 h2⟩
end
def nrO : AO → Prop
 | .cells l _ _ => nrL l = true
 | _ => False
structure NR (s : St) : Prop where
 tm : ∀ t, nr (s.slot t) = true
 h : ∀ i o, s.h.m i = some o → nrO o
 ds : s.ds = []
theorem NR.drop {D : Nat → Prop} {ρ : Ren} {s : St} {a : Act} {w : World} (k : NR s) (sr : SRel D ρ s a w) : SRel D ⟨ρ.f, fun _ _ => False⟩ s a w := by
 have hf : ∀ i, (⟨ρ.f, fun _ _ => False⟩ : Ren) i = ρ i := fun _ => rfl
 refine ⟨fun t => rel_nr hf _ _ (k.tm t) (sr.tm t), sr.sz, ⟨fun i b n o hρ ho => ?_, sr.hr.inj, sr.hr.born, sr.hr.far, fun _ _ h => h.elim⟩, ?_⟩
 ·obtain ⟨hd, o', h1, h2⟩ := sr.hr.obj i b n o hρ ho
  refine ⟨hd, o', h1, ?_⟩
  have hn := k.h i o ho
  cases o with
  | cells l e x =>
   simp only [AO.rel] at h2 ⊢
   obtain ⟨p, r, q1, q2, q3, q4⟩ := h2
   exact ⟨p, r, q1, q2, relL_nr hf _ _ hn q3, q4⟩
  | perm l e x => exact hn.elim
  | map l => exact hn.elim
 ·have := sr.ds
  rw [k.ds] at this ⊢
  exact this
abbrev Gam := Option (Nat × Nat × List Nat)
def Dn (w0 : World) (γ : Gam) : Nat → Prop := fun b => w0.heap.size ≤ b ∧ ∀ x, γ = some x → b ≠ x.1
structure Sd (w0 : World) (γ : Gam) (ρ : Ren) (s : St) (a : Act) (w : World) : Prop where
 sr : SRel (Dn w0 γ) ρ s a w
 free : ∀ i, s.h.next ≤ i → ρ i = none
 bel : Below w0.heap.size w0 w
 row : ∀ x, γ = some x → w0.heap.size ≤ x.1 ∧ Row w 0 x.1 x.2.1 x.2.2
 noreg : ∀ ad l, ¬ ρ.reg ad l
def WPd (w0 : World) (P : Program) (c : Code) (s : St) (γ : Gam) (Q : AExit → St → Gam → Prop) : Prop :=
 ∀ (ρ : Ren) (a : Act) (w : World) (R : Exit → Act → World → Prop), Sd w0 γ ρ s a w → (∀ (ρ' : Ren) (e : AExit) (e' : Exit) (s' : St) (γ' : Gam) (a' : Act) (w' : World), Sd w0 γ' ρ' s' a' w' → ExRel ρ' e e' → Q e s' γ' → R e' a' w') → c.wp P R a w
def thenD (w0 : World) (P : Program) (b : Code) (Q : AExit → St → Gam → Prop) : AExit → St → Gam → Prop
 | .normal, s, γ => WPd w0 P b s γ Q
 | e, s, γ => Q e s γ
def blkD (id : Nat) (Q : AExit → St → Gam → Prop) : AExit → St → Gam → Prop
 | .exit j, s, γ => if j = id then Q .normal s γ else Q (.exit j) s γ
 | e, s, γ => Q e s γ
theorem row_same {w w' : World} {g c : Nat} {l : List Nat} (h : Row w 0 g c l) (hg : w'.heap[g]? = w.heap[g]?) : Row w' 0 g c l := by
 refine ⟨h.1, ?_⟩
 rcases h.2 with h2 | ⟨g', c', cur, e, hb, hcur, rest⟩
 ·exact .inl h2
 ·cases e
  exact .inr ⟨g, c, cur, rfl, hb, by rw [hg]; exact hcur, rest⟩
theorem WPd.lift {Fz : Prop} {w0 : World} {P : Program} {c : Code} {s : St} {γ : Gam} {Q : AExit → St → Gam → Prop} (k : WP Fz P c s fun e s' => (NR s' ∧ ∀ v, e ≠ .panic v) ∧ Q e s' γ) : WPd w0 P c s γ Q := by
 obtain ⟨e, s', sem, ⟨hnr, hnp⟩, q⟩ := k
 intro ρ a w R d dn
 refine sem.run (Dn w0 γ) ρ a w R d.sr (fun i h1 _ => d.free i h1) fun ρ' e' a' w' gs sr er => dn ⟨ρ'.f, fun _ _ => False⟩ e e' s' γ a' w' ⟨hnr.drop sr, fun i hi => ?_, ?_, fun x hx => ?_, fun _ _ h => h⟩ (by cases e <;> first | exact er | exact absurd rfl (hnp _)) q
 ·show ρ' i = none
  rw [gs.dom i (.inr hi)]; exact d.free i (Nat.le_trans sem.next hi)
 ·exact ⟨gs.fr.os.trans d.bel.os, gs.fr.tape.trans d.bel.tape, gs.fr.output.trans d.bel.output, Nat.le_trans d.bel.size gs.fr.size, fun k hk => (gs.fr.block k (Nat.lt_of_lt_of_le hk d.bel.size) fun c => by have := c.1; omega).trans (d.bel.block k hk)⟩
 ·obtain ⟨h1, h2⟩ := d.row x hx
  exact ⟨h1, row_same h2 (gs.fr.block _ h2.lt fun c => c.2 x hx rfl)⟩
theorem WPd.seq {w0 : World} {P : Program} {x y : Code} {s : St} {γ : Gam} {Q : AExit → St → Gam → Prop} (k : WPd w0 P x s γ (thenD w0 P y Q)) : WPd w0 P (.seq x y) s γ Q := by
 intro ρ a w R d dn
 refine wp_seq (k ρ a w _ d fun ρ' e e' s' γ' a' w' d' er q => ?_)
 cases e with
 | normal =>
  simp only [ExRel] at er; subst er
  exact q ρ' a' w' R d' dn
 | exit id => simp only [ExRel] at er; subst er; exact dn _ _ _ _ _ _ _ d' (by simp only [ExRel]) q
 | ret => simp only [ExRel] at er; subst er; exact dn _ _ _ _ _ _ _ d' (by simp only [ExRel]) q
 | goto l => simp only [ExRel] at er; subst er; exact dn _ _ _ _ _ _ _ d' (by simp only [ExRel]) q
 | panic v =>
  obtain ⟨v', rfl, hv⟩ := er
  exact dn _ (.panic v) _ _ _ _ _ d' ⟨v', rfl, hv⟩ q
theorem WPd.block {w0 : World} {P : Program} {id : Nat} {x : Code} {s : St} {γ : Gam} {Q : AExit → St → Gam → Prop} (k : WPd w0 P x s γ (blkD id Q)) : WPd w0 P (.block id x) s γ Q := by
 intro ρ a w R d dn
 refine wp_block (k ρ a w _ d fun ρ' e e' s' γ' a' w' d' er q => ?_)
 cases e with
 | normal => simp only [ExRel] at er; subst er; exact dn _ _ _ _ _ _ _ d' (by simp only [ExRel]) q
 | exit j =>
  simp only [ExRel] at er; subst er
  simp only [blkD] at q
  show (if j = id then R .normal a' w' else R (.exit j) a' w')
  split
  ·rename_i h; rw [if_pos h] at q; exact dn _ _ _ _ _ _ _ d' (by simp only [ExRel]) q
  ·rename_i h; rw [if_neg h] at q; exact dn _ (.exit j) _ _ _ _ _ d' (by simp only [ExRel]) q
 | ret => simp only [ExRel] at er; subst er; exact dn _ _ _ _ _ _ _ d' (by simp only [ExRel]) q
 | goto l => simp only [ExRel] at er; subst er; exact dn _ _ _ _ _ _ _ d' (by simp only [ExRel]) q
 | panic v =>
  obtain ⟨v', rfl, hv⟩ := er
  exact dn _ (.panic v) _ _ _ _ _ d' ⟨v', rfl, hv⟩ q
theorem WPd.cond {w0 : World} {P : Program} {c : Operand} {x y : Code} {s : St} {γ : Gam} {Q : AExit → St → Gam → Prop} {b : Bool} (hc : s.ev c = .flat (.bool b)) (k1 : b = true → WPd w0 P x s γ Q) (k2 : b = false → WPd w0 P y s γ Q) : WPd w0 P (.cond c x y) s γ Q := by
 intro ρ a w R d dn
 have hev := d.sr.ev c
 rw [hc] at hev
 simp only [AV.rel] at hev
 exact wp_cond_split hev (fun h => k1 h ρ a w R d dn) (fun h => k2 h ρ a w R d dn)
theorem WPd.loop {w0 : World} {P : Program} {x : Code} {s : St} {γ : Gam} {Q : AExit → St → Gam → Prop} (I : Nat → St → Gam → Prop) (n : Nat) (h : I n s γ)
    (round : ∀ n s γ, I n s γ → WPd w0 P x s γ fun e s' γ' => match e with | .normal => ∃ m, n = m + 1 ∧ I m s' γ' | e => Q e s' γ') : WPd w0 P (.loop x) s γ Q := by
 intro ρ a w R d dn
 refine wp_loop_rounds (n + 1) ?_
 induction n generalizing s γ ρ a w with
 | zero =>
  rw [rounds_succ]
  refine round 0 s γ h ρ a w _ d fun ρ' e e' s' γ' a' w' d' er q => ?_
  cases e with
  | normal => obtain ⟨m, hm, _⟩ := q; omega
  | exit j => simp only [ExRel] at er; subst er; exact dn _ _ _ _ _ _ _ d' (by simp only [ExRel]) q
  | ret => simp only [ExRel] at er; subst er; exact dn _ _ _ _ _ _ _ d' (by simp only [ExRel]) q
  | goto l => simp only [ExRel] at er; subst er; exact dn _ _ _ _ _ _ _ d' (by simp only [ExRel]) q
  | panic v => obtain ⟨v', rfl, hv⟩ := er; exact dn _ (.panic v) _ _ _ _ _ d' ⟨v', rfl, hv⟩ q
 | succ n ih =>
  rw [rounds_succ]
  refine round (n + 1) s γ h ρ a w _ d fun ρ' e e' s' γ' a' w' d' er q => ?_
  cases e with
  | normal =>
   simp only [ExRel] at er; subst er
   obtain ⟨m, hm, hi⟩ := q
   obtain rfl : n = m := by omega
   exact ih hi ρ' a' w' d'
  | exit j => simp only [ExRel] at er; subst er; exact dn _ _ _ _ _ _ _ d' (by simp only [ExRel]) q
  | ret => simp only [ExRel] at er; subst er; exact dn _ _ _ _ _ _ _ d' (by simp only [ExRel]) q
  | goto l => simp only [ExRel] at er; subst er; exact dn _ _ _ _ _ _ _ d' (by simp only [ExRel]) q
  | panic v => obtain ⟨v', rfl, hv⟩ := er; exact dn _ (.panic v) _ _ _ _ _ d' ⟨v', rfl, hv⟩ q
theorem WPd.mono {w0 : World} {P : Program} {c : Code} {s : St} {γ : Gam} {Q Q' : AExit → St → Gam → Prop} (k : WPd w0 P c s γ Q) (h : ∀ e s γ, Q e s γ → Q' e s γ) : WPd w0 P c s γ Q' := fun ρ a w R d dn => k ρ a w R d fun ρ' e e' s' γ' a' w' d' er q => dn ρ' e e' s' γ' a' w' d' er (h _ _ _ q)
theorem wpl_call {P : Program} {ops : Array Oper} {Q : Exit → Act → World → Prop} {a : Act} {w : World} {o : Oper} {rest : List Oper} {f : FuncId} {args : Array Value} (hg : o.guard = none) (hr : (execOp a.eval o).run P w = .ok (.enter f args) w) (k : Calls P f args w fun e w' => ∃ v, e = .returned v ∧ wpList P ops Q rest (a.put o.dst v) w') : wpList P ops Q (o :: rest) a w :=
 wpList_plain hg fun K hK => by
  unfold Oper.wp
  rw [hr]
  refine k.mono ?_
  rintro e w' ⟨v, rfl, hv⟩
  exact hK _ _ hv
theorem Sd.step {w0 : World} {g c : Nat} {l o : List Nat} {ρ : Ren} {s : St} {a : Act} {w w' : World} (d : Sd w0 (some (g, c, l)) ρ s a w) (hg : w.grownBy w' (some g)) (hr : Row w' 0 g c o) : Sd w0 (some (g, c, o)) ρ s a w' := by
 have e : Dn w0 (some (g, c, o)) = Dn w0 (some (g, c, l)) := by
  funext b
  simp only [Dn, Option.some.injEq, forall_eq']
 obtain ⟨h1, h2⟩ := d.row _ rfl
 dsimp only at h1 h2
 refine ⟨by
  rw [e]
  refine ⟨d.sr.tm, d.sr.sz, ⟨fun i b n o hρ ho => ?_, d.sr.hr.inj, d.sr.hr.born, fun b hb => d.sr.hr.far b (Nat.le_trans hg.size hb), fun ad l hl => (d.noreg ad l hl).elim⟩, d.sr.ds⟩
  ·obtain ⟨hd, o', h3, h4⟩ := d.sr.hr.obj i b n o hρ ho
   exact ⟨hd, o', by rw [hg.block b (Array.getElem?_eq_some_iff.1 h3).1 fun c => by simp only [Option.some.injEq] at c; exact hd.2 _ rfl c]; exact h3, h4⟩, d.free, ⟨hg.os.trans d.bel.os, hg.tape.trans d.bel.tape, hg.output.trans d.bel.output, Nat.le_trans d.bel.size hg.size, fun k hk => (hg.block k (Nat.lt_of_lt_of_le hk d.bel.size) fun c => by simp only [Option.some.injEq] at c; omega).trans (d.bel.block k hk)⟩, fun x hx => ?_, d.noreg⟩
 cases hx
 exact ⟨h1, hr⟩
end Go.Proofs.Ytkffcclalncgdaa.Iv
end
section
set_option linter.unusedVariables false
set_option linter.unusedSimpArgs false
namespace Go.Proofs.Ytkffcclalncgdaa.Nv
open Go Go.RowKit Dg
set_option maxRecDepth 100000 in
set_option maxHeartbeats 1600000 in
theorem cut_own (A : Option Addr) (c : Nat) (l : List Nat) (w : World) (hr : Rd w A l) (hok : ok l) (hc : l.length ≤ c) :
    Calls Try.prog 49 #[.slice A (l.length : Nat) c] w fun e w' => ∃ v : Value, e = .returned (.agg #[v]) ∧ ((val l = 0 ∧ v = .slice A 0 0) ∨ ∃ j, 0 < j ∧ j ≤ l.length ∧ v = .slice A j j ∧ dg (val l) = l.take j) ∧ Below w.heap.size w w' := by
 have HB := As.mk (Below.refl w.heap.size w)
 have ll := hr.len
 have HR := As.mk hr
 clear hr
 go_enter Try.func49, Try.ntmps49
 go_wp2
 have hr1 : Rd (w.alloc (.cells #[.slice none 0 0] 52)) A l := HR.out.below ((Below.refl _ w).alloc (Nat.le_refl _) _)
 have HR1 := As.mk hr1
 clear hr1
 go_loopg [3] l.length (fun gk v3 wr => ∃ (j : Nat), v3 = .int .i64 (j : Int) ∧ wr = w.alloc (.cells #[.slice none 0 0] 52) ∧ As (j ≤ gk ∧ j ≤ l.length ∧ val (l.take j) = val l))
 case atStart => exact ⟨l.length, rfl, rfl, ⟨Nat.le_refl _, Nat.le_refl _, by rw [List.take_length]⟩⟩
 case round =>
  obtain ⟨j, rfl, rfl, J⟩ := hrel
  obtain ⟨jg, jl, _⟩ := J.out
  by_cases j0 : j = 0
  ·subst j0
   have ev : As (val l = 0) := ⟨by have := J.out.2.2; simpa [val] using this.symm⟩
   go_wp2
   refine bodyPost_ret (ret_nat rfl w.heap.size (.slice A 0 0) rfl (heap_alloc_new w _)) rfl ?_
   exact ⟨.slice A 0 0, rfl, .inl ⟨ev.out, rfl⟩, (HB.out.alloc (Nat.le_refl _) _)⟩
  ·obtain ⟨x, hx⟩ : ∃ x, x = l[j - 1]'(by omega) := ⟨_, rfl⟩
   obtain ⟨ad, hA, cx⟩ := HR1.out.get (j := j - 1) (by omega)
   rw [← hx] at cx
   cases hA
   have HX := As.mk hx
   clear hx
   by_cases z : x = 0
   ·subst z
    go_wp2
    go_roundg (j - 1)
    case measure => omega
    case rel =>
     refine ⟨j - 1, by simp; omega, rfl, ⟨by omega, by omega, ?_⟩⟩
     rw [← J.out.2.2, ← take_zero (j - 1) (by omega) HX.out.symm, show j - 1 + 1 = j by omega]
   ·go_wp2
    refine bodyPost_ret (ret_nat rfl w.heap.size (.slice (some ad) (j : Nat) j) rfl (heap_alloc_new w _)) rfl ?_
    have e : dg (val l) = l.take j := dg_cut hok j jl J.out.2.2 (fun _ _ => by rw [← HX.out]; exact z)
    exact ⟨.slice (some ad) (j : Nat) j, rfl, .inr ⟨j, by omega, jl, rfl, e⟩, (HB.out.alloc (Nat.le_refl _) _)⟩
set_option maxRecDepth 100000 in
set_option maxHeartbeats 3200000 in
theorem short_calls2 (base g c c2 b : Nat) (l : List Nat) (w : World) (hp : Row w base g c l) (okl : ok l) (hl1 : l.length ≤ 1099511627776) (b0 : 0 < b) (bM : b < 4294967296) :
    Calls Try.prog 50 #[.slice (some ⟨g, 0, none⟩) l.length c2, .int .u32 (b : Int)] w fun e w' => e = .returned (.int .u32 ((val l % b : Nat) : Int)) ∧
     ∃ o, Row w' base g c o ∧ o.length = l.length ∧ ok o ∧ val o = val l / b ∧ w.grownBy w' (some g) := by
 have HP := As.mk hp
 clear hp
 go_enter Try.func50, Try.ntmps50
 go_wp2
 go_loopg [5, 6] l.length (fun gk v5 v6 wr => ∃ (j r : Nat) (hi : List Nat), v5 = .int .u64 (r : Int) ∧ v6 = .int .i64 ((j : Int) - 1) ∧ As (j ≤ l.length ∧ j ≤ gk) ∧ As (Sh l b j r hi) ∧ As (Row wr base g c (l.take j ++ hi)) ∧ As (w.grownBy wr (some g)))
 case atStart => exact ⟨l.length, 0, [], rfl, rfl, ⟨by omega⟩, ⟨Sh.start b0⟩, ⟨by rw [List.take_length, List.append_nil]; exact HP.out⟩, ⟨World.grownBy.refl _ _⟩⟩
 case round =>
  clear HP
  obtain ⟨j, r, hi, rfl, rfl, J, S, G, W⟩ := hrel
  obtain ⟨jl, jg⟩ := J.out
  have rb := S.out.r1
  by_cases j0 : j = 0
  ·subst j0
   go_wp2
   go_ret
   obtain ⟨e1, e2⟩ := S.out.stop
   have G1 := G.out
   rw [List.take_zero, List.nil_append] at G1
   rw [← e2]
   exact ⟨rfl, hi, G1, by have := S.out.len; omega, S.out.ok, e1, W.out⟩
  ·obtain ⟨j, rfl⟩ : ∃ k, j = k + 1 := ⟨j - 1, by omega⟩
   have hj : j < l.length := by omega
   obtain ⟨x, hx⟩ : ∃ x, x = l[j] := ⟨_, rfl⟩
   have xb : x < 4294967296 := by rw [hx]; exact okl _ (List.getElem_mem hj)
   have jo : j < (l.take (j + 1) ++ hi).length := by rw [List.length_append, List.length_take]; omega
   obtain ⟨cj, fj⟩ := G.out.get jo
   have ej : (l.take (j + 1) ++ hi)[j]'jo = x := by rw [hx, List.getElem_append_left (by rw [List.length_take]; omega), List.getElem_take]
   rw [ej] at cj
   have HX := As.mk hx
   have dg1 := S.out.digit okl hj
   rw [← hx] at dg1
   have OH := As.mk ((or_halves r x (by omega) xb).trans (show (r : Int) * 4294967296 + (x : Int) = ((r * 4294967296 + x : Nat) : Int) by omega))
   have jj : ((j + 1 : Nat) : Int) - 1 = (j : Int) := by omega
   clear hx ej jo
   go_wp2
   go_region
   all_goals (try go_wp2)
   go_roundg j
   case measure => omega
   case rel =>
    have N := S.out.next okl hj
    rw [← HX.out] at N
    have e1 : (Go.bits .or .u64 ((r : Int) * 4294967296) (x : Int)).tmod (b : Int) = (((r * 4294967296 + x) % b : Nat) : Int) := by
     rw [OH.out, Int.tmod_eq_emod_of_nonneg (by omega)]; exact (Int.natCast_emod _ _).symm
    have e2 : IntKind.u64.wrap ((Go.bits .or .u64 ((r : Int) * 4294967296) (x : Int)).tdiv (b : Int)) % 4294967296 = (((r * 4294967296 + x) / b : Nat) : Int) := by
     rw [OH.out, Int.tdiv_eq_ediv_of_nonneg (by omega), ← Int.natCast_ediv]; exact u64_q dg1
    have G' := G.out.set j ((r * 4294967296 + x) / b)
    rw [set_at hj] at G'
    rw [e1, e2]
    exact ⟨j, _, _, rfl, rfl, ⟨by omega⟩, ⟨N⟩, ⟨by first | exact G' | exact G'.drew⟩, ⟨by first | exact grown_set1 W.out | exact grown_drew (grown_set1 W.out)⟩⟩
end Go.Proofs.Ytkffcclalncgdaa.Nv
end
section
set_option maxHeartbeats 8000000
set_option linter.unusedVariables false
set_option linter.unusedSimpArgs false
set_option maxRecDepth 10000
namespace Go.Proofs.Ytkffcclalncgdaa.Iv
open Go Go.Iv Go.RowKit Go.Proofs.Ytkffcclalncgdaa.Nv Dg
theorem Sd.set {w0 : World} {γ : Gam} {ρ : Ren} {s : St} {a : Act} {w : World} (k : Sd w0 γ ρ s a w) {d : Nat} (hd : d < s.n) {v : AV} {v' : Value} (hv : v.rel ρ v') : Sd w0 γ ρ ⟨upd s.tm d (some v), s.n, s.h, s.ds⟩ (a.put (some d) v') w :=
 ⟨k.sr.set hd hv, k.free, k.bel, k.row, k.noreg⟩
theorem Sd.get {w0 : World} {γ : Gam} {ρ : Ren} {s : St} {a : Act} {w : World} (k : Sd w0 γ ρ s a w) {t : Nat} {v : Value} (h : s.tm t = some (.flat v)) : a.eval (.tmp t) = v := by
 have := k.sr.tm t
 simp only [St.slot, h, AV.rel] at this
 exact this
theorem Sd.evalp {w0 : World} {γ : Gam} {ρ : Ren} {s : St} {a : Act} {w : World} (k : Sd w0 γ ρ s a w) {d : Nat} (v : Value) (h : d < s.n) : (a.put (some d) v).eval (.tmp d) = v := eval_put (by rw [k.sr.sz]; exact h)
theorem WPd.short {w0 : World} {idA : Nat} {opsA : Array Oper} {d1 d2 d3 t : Nat} {ty1 ty2 ty3 : TypeId} {p1 p2 p3 : String} {f1 f2 f3 : Array Edge} {ts : Array TypeId} {s : St} {g c c2 by_ : Nat} {L : List Nat} {Q : AExit → St → Gam → Prop}
    (hops : opsA.toList = [⟨some d1, .move (.tmp t), ty1, p1, f1, none⟩, ⟨some d2, .call ⟨.value (.func 50), #[.tmp d1, .const (.int .u32 (by_ : Int))], ts⟩, ty2, p2, f2, none⟩, ⟨some d3, .assign (.tmp d2), ty3, p3, f3, none⟩])
    (ht : s.tm t = some (.flat (.slice (some ⟨g, 0, none⟩) L.length c2))) (hd : d1 < s.n ∧ d2 < s.n ∧ d3 < s.n) (okl : ok L) (hL : L.length ≤ 1000000) (b0 : 0 < by_) (bM : by_ < 4294967296)
    {r : Nat} (hr : r = val L % by_) (k : ∀ o, o.length = L.length → ok o → val o = val L / by_ → Q .normal ⟨upd (upd (upd s.tm d1 (some (.flat (.slice (some ⟨g, 0, none⟩) L.length c2)))) d2 (some (.flat (.int .u32 (r : Int))))) d3 (some (.flat (.int .u32 (r : Int)))), s.n, s.h, s.ds⟩ (some (g, c, o))) :
    WPd w0 Try.prog (.region idA opsA false) s (some (g, c, L)) Q := by
 intro ρ a w R d dn
 obtain ⟨n1, n2, n3⟩ := hd
 have hev := d.get ht
 obtain ⟨h1, h2⟩ := d.row _ rfl
 dsimp only at h1 h2
 refine wp_region ?_
 rw [show opsA.size = 3 by rw [← Array.length_toList, hops]; rfl, List.range_eq_range', show (3 : Nat) = ([⟨some d1, .move (.tmp t), ty1, p1, f1, none⟩, ⟨some d2, .call ⟨.value (.func 50), #[.tmp d1, .const (.int .u32 (by_ : Int))], ts⟩, ty2, p2, f2, none⟩, ⟨some d3, .assign (.tmp d2), ty3, p3, f3, none⟩] : List Oper).length from rfl]
 refine (congrFun (congrFun (wpOps_eq_wpList _ 0 (fun j => by rw [← Array.getElem?_toList, hops, Nat.zero_add])) _) _).mpr ?_
 have dA := d.set (d := d1) n1 (v := .flat (.slice (some ⟨g, 0, none⟩) L.length c2)) (v' := .slice (some ⟨g, 0, none⟩) L.length c2) (by simp [AV.rel])
 refine wpl_val rfl (v := .slice (some ⟨g, 0, none⟩) L.length c2) (w' := w) (by simp [execOp, hev]) ?_
 have e1 := d.evalp (.slice (some ⟨g, 0, none⟩) L.length c2) n1
 refine wpl_call rfl (f := 50) (args := #[.slice (some ⟨g, 0, none⟩) L.length c2, .int .u32 (by_ : Int)]) ?_ ?_
 ·show (callFunc 50 (#[] ++ #[Operand.tmp d1, .const (.int .u32 (by_ : Int))].map (a.put (some d1) (.slice (some ⟨g, 0, none⟩) L.length c2)).eval ++ #[])).run Try.prog w = _
  rw [run_callFunc tables.ok fn50]
  simp only [List.map_toArray, List.map_cons, List.map_nil, e1]
  rfl
 ·refine (short_calls2 0 g c c2 by_ L w h2 okl (by omega) b0 bM).mono ?_
  rintro e w' ⟨rfl, o, ro, lo, oko, eo, gr⟩
  rw [← hr]
  refine ⟨_, rfl, ?_⟩
  have dB := (dA.step gr ro).set (d := d2) n2 (v := .flat (.int .u32 (r : Int))) (v' := .int .u32 (r : Int)) (by simp [AV.rel])
  have e2 := (dA.step gr ro).evalp (d := d2) (.int .u32 (r : Int)) n2
  refine wpl_val rfl (v := .int .u32 (r : Int)) (w' := w') (by simp [execOp, e2]) ?_
  have dC := dB.set (d := d3) n3 (v := .flat (.int .u32 (r : Int))) (v' := .int .u32 (r : Int)) (by simp [AV.rel])
  exact dn _ .normal _ _ _ _ _ dC (by simp only [ExRel]) (k o lo oko eo)
theorem row_take {w : World} {base g c : Nat} {l : List Nat} (h : Row w base g c l) (j : Nat) (hj : j ≤ l.length) : Row w base g c (l.take j) := by
 have el : (l.take j).length = j := by rw [List.length_take]; omega
 obtain ⟨h1, h2⟩ := h
 unfold Row
 rw [el]
 refine ⟨by rw [us_len, el]; omega, ?_⟩
 rcases h2 with ⟨e, _⟩ | ⟨g', c', cur, e, hb, hg, hn, hm, hs, ht⟩
 ·cases e
 ·cases e
  refine .inr ⟨g, c, cur, rfl, hb, hg, by omega, hm, hs, ?_⟩
  have : us (l.take j) = (us l).take j := by simp [us, List.map_take]
  rw [this, ← ht, List.take_take, Nat.min_eq_left (by omega), Nat.mul_one]
theorem Sd.below {w0 : World} {γ : Gam} {ρ : Ren} {s : St} {a : Act} {w w' : World} (d : Sd w0 γ ρ s a w) (hb : Below w.heap.size w w') : Sd w0 γ ρ s a w' :=
 ⟨⟨d.sr.tm, d.sr.sz, (Step.below d.sr.hr hb).hr, d.sr.ds⟩, d.free, ⟨hb.os.trans d.bel.os, hb.tape.trans d.bel.tape, hb.output.trans d.bel.output, Nat.le_trans d.bel.size hb.size, fun k hk => (hb.block k (Nat.lt_of_lt_of_le hk d.bel.size)).trans (d.bel.block k hk)⟩,
  fun x hx => ⟨(d.row x hx).1, row_same (d.row x hx).2 (hb.block _ (d.row x hx).2.lt)⟩, d.noreg⟩
theorem Sd.digits {w0 : World} {g c : Nat} {l o : List Nat} {ρ : Ren} {s : St} {a : Act} {w : World} (d : Sd w0 (some (g, c, l)) ρ s a w) (hr : Row w 0 g c o) : Sd w0 (some (g, c, o)) ρ s a w := d.step (World.grownBy.refl _ _) hr
theorem WPd.cut {w0 : World} {idA : Nat} {opsA : Array Oper} {d1 d2 d3 d4 t : Nat} {ty1 ty2 ty3 ty4 : TypeId} {p1 p2 p3 p4 : String} {f1 f2 f3 f4 : Array Edge} {ts : Array TypeId} {s : St} {g c c2 : Nat} {L : List Nat} {Q : AExit → St → Gam → Prop}
    (hops : opsA.toList = [⟨some d1, .move (.tmp t), ty1, p1, f1, none⟩, ⟨some d2, .call ⟨.value (.func 49), #[.tmp d1], ts⟩, ty2, p2, f2, none⟩, ⟨some d3, .field 52 (.tmp d2) 0, ty3, p3, f3, none⟩, ⟨some d4, .assign (.tmp d3), ty4, p4, f4, none⟩])
    (ht : s.tm t = some (.flat (.slice (some ⟨g, 0, none⟩) L.length c2))) (hd : d1 < s.n ∧ d2 < s.n ∧ d3 < s.n ∧ d4 < s.n) (okl : ok L) (hL : L.length ≤ 1000000) (hc : L.length ≤ c2)
    (k : ∀ c3, (dg (val L)).length ≤ c3 → Q .normal ⟨upd (upd (upd (upd s.tm d1 (some (.flat (.slice (some ⟨g, 0, none⟩) L.length c2)))) d2 (some (.agg [.flat (.slice (some ⟨g, 0, none⟩) (dg (val L)).length c3)]))) d3 (some (.flat (.slice (some ⟨g, 0, none⟩) (dg (val L)).length c3)))) d4 (some (.flat (.slice (some ⟨g, 0, none⟩) (dg (val L)).length c3))), s.n, s.h, s.ds⟩ (some (g, c, dg (val L)))) :
    WPd w0 Try.prog (.region idA opsA false) s (some (g, c, L)) Q := by
 intro ρ a w R d dn
 obtain ⟨n1, n2, n3, n4⟩ := hd
 have hev := d.get ht
 obtain ⟨h1, h2⟩ := d.row _ rfl
 dsimp only at h1 h2
 refine wp_region ?_
 rw [show opsA.size = 4 by rw [← Array.length_toList, hops]; rfl, List.range_eq_range', show (4 : Nat) = ([⟨some d1, .move (.tmp t), ty1, p1, f1, none⟩, ⟨some d2, .call ⟨.value (.func 49), #[.tmp d1], ts⟩, ty2, p2, f2, none⟩, ⟨some d3, .field 52 (.tmp d2) 0, ty3, p3, f3, none⟩, ⟨some d4, .assign (.tmp d3), ty4, p4, f4, none⟩] : List Oper).length from rfl]
 refine (congrFun (congrFun (wpOps_eq_wpList _ 0 (fun j => by rw [← Array.getElem?_toList, hops, Nat.zero_add])) _) _).mpr ?_
 have dA := d.set (d := d1) n1 (v := .flat (.slice (some ⟨g, 0, none⟩) L.length c2)) (v' := .slice (some ⟨g, 0, none⟩) L.length c2) (by simp [AV.rel])
 refine wpl_val rfl (v := .slice (some ⟨g, 0, none⟩) L.length c2) (w' := w) (by simp [execOp, hev]) ?_
 have e1 := d.evalp (.slice (some ⟨g, 0, none⟩) L.length c2) n1
 refine wpl_call rfl (f := 49) (args := #[.slice (some ⟨g, 0, none⟩) L.length c2]) ?_ ?_
 ·show (callFunc 49 (#[] ++ #[Operand.tmp d1].map (a.put (some d1) (.slice (some ⟨g, 0, none⟩) L.length c2)).eval ++ #[])).run Try.prog w = _
  rw [run_callFunc tables.ok fn49]
  simp only [List.map_toArray, List.map_cons, List.map_nil, e1]
  rfl
 ·refine (cut_own (some ⟨g, 0, none⟩) c2 L w (h2.read (by omega)) okl hc).mono ?_
  rintro e w' ⟨v, rfl, hv, hb⟩
  have key : ∃ c3, v = .slice (some ⟨g, 0, none⟩) (dg (val L)).length c3 ∧ (dg (val L)).length ≤ c3 ∧ Row w 0 g c (dg (val L)) := by
   rcases hv with ⟨h0, rfl⟩ | ⟨j, _, hj, rfl, hdg⟩
   ·rw [h0, dg_zero]
    exact ⟨0, rfl, Nat.le_refl _, by have := row_take h2 0 (Nat.zero_le _); rwa [List.take_zero] at this⟩
   ·rw [hdg]
    have el : (L.take j).length = j := by rw [List.length_take]; omega
    rw [el]
    exact ⟨j, rfl, Nat.le_refl _, row_take h2 j hj⟩
  obtain ⟨c3, rfl, hc3, hrow⟩ := key
  refine ⟨_, rfl, ?_⟩
  obtain ⟨V, hV⟩ : ∃ V : Value, V = .slice (some ⟨g, 0, none⟩) (dg (val L)).length c3 := ⟨_, rfl⟩
  rw [← hV]
  have k := k c3 hc3
  rw [← hV] at k
  have dB := (((dA.digits hrow).below hb).set (d := d2) n2 (v := .agg [.flat V]) (v' := .agg #[V]) (by simp only [AV.rel]; exact ⟨_, rfl, relL_cons.2 ⟨_, _, rfl, by simp [AV.rel], relL_nil.2 rfl⟩⟩))
  have e2 := ((dA.digits hrow).below hb).evalp (d := d2) (.agg #[V]) n2
  obtain ⟨y, hy, hyr⟩ := evField_sound (P := Try.prog) (ρ := ρ) (w := w') tables.ok (s := 52) (f := 0) (a := AV.agg [.flat V]) (v := AV.flat V) (x := .agg #[V]) (by simp only [AV.rel]; exact ⟨_, rfl, relL_cons.2 ⟨_, _, rfl, by simp [AV.rel], relL_nil.2 rfl⟩⟩) (by simp [evField, ty52, evPart]; rfl)
  simp only [AV.rel] at hyr
  subst hyr
  refine wpl_val rfl (v := y) (w' := w') (by simp [execOp, e2, hy, Result.andThen]) ?_
  have dC := dB.set (d := d3) n3 (v := .flat y) (v' := y) (by simp [AV.rel])
  have e3 := dB.evalp (d := d3) y n3
  refine wpl_val rfl (v := y) (w' := w') (by simp [execOp, e3]) ?_
  have dD := dC.set (d := d4) n4 (v := .flat y) (v' := y) (by simp [AV.rel])
  exact dn _ .normal _ _ _ _ _ dD (by simp only [ExRel]) k
end Go.Proofs.Ytkffcclalncgdaa.Iv
end
section
set_option maxHeartbeats 8000000
set_option linter.unusedVariables false
set_option linter.unusedSimpArgs false
set_option maxRecDepth 10000
namespace Go.Proofs.Ytkffcclalncgdaa.Iv
open Go Go.Iv Go.RowKit Go.Proofs.Ytkffcclalncgdaa.Nv Dg
theorem Sd.grown {w0 : World} {ρ : Ren} {s : St} {a : Act} {w w2 : World} (d : Sd w0 none ρ s a w) (hg : w.grownBy w2 none) {g c : Nat} {l : List Nat} (hr : Row w2 w.heap.size g c l) : Sd w0 (some (g, c, l)) ρ s a w2 := by
 obtain ⟨hgb, _, _⟩ := hr.block
 have hr0 : Row w2 0 g c l := ⟨hr.1, by
  rcases hr.2 with h2 | ⟨g', c', cur, e, hb, rest⟩
  ·exact .inl h2
  ·exact .inr ⟨g', c', cur, e, Nat.zero_le _, rest⟩⟩
 refine ⟨⟨d.sr.tm, d.sr.sz, ⟨fun i b n o hρ ho => ?_, d.sr.hr.inj, d.sr.hr.born, fun b hb => ⟨Nat.le_trans d.bel.size (Nat.le_trans hg.size hb), fun x hx => ?_⟩, fun ad l hl => (d.noreg ad l hl).elim⟩, d.sr.ds⟩, d.free,
  ⟨hg.os.trans d.bel.os, hg.tape.trans d.bel.tape, hg.output.trans d.bel.output, Nat.le_trans d.bel.size hg.size, fun k hk => (hg.block k (Nat.lt_of_lt_of_le hk d.bel.size) (by simp)).trans (d.bel.block k hk)⟩, fun x hx => ?_, d.noreg⟩
 ·obtain ⟨hd, o', h3, h4⟩ := d.sr.hr.obj i b n o hρ ho
  have hlt := (Array.getElem?_eq_some_iff.1 h3).1
  refine ⟨⟨hd.1, fun x hx => ?_⟩, o', by rw [hg.block b hlt (by simp)]; exact h3, h4⟩
  cases hx
  show b ≠ g
  omega
 ·cases hx
  have := hr0.lt
  show b ≠ g
  omega
 ·cases hx
  exact ⟨Nat.le_trans d.bel.size hgb, hr0⟩
theorem WPd.copy {w0 : World} {idA : Nat} {opsA : Array Oper} {pre : List Oper} {d2 d3 d4 : Nat} {ty3 ty4 : TypeId} {p3 p4 : String} {f3 f4 : Array Edge} {s s1 : St} {call : CallF} {A : Option Addr} {c N : Nat} {Q : AExit → St → Gam → Prop} (B : Base Try.prog tab call)
    (hops : opsA.toList = pre ++ [⟨some d3, .call ⟨.builtin .append, #[.const (.slice none 0 0), .tmp d2], #[50, 50]⟩, ty3, p3, f3, none⟩, ⟨some d4, .assign (.tmp d3), ty4, p4, f4, none⟩])
    (hpre : evOps call tab opsA.toList pre s = some (.normal, s1)) (hnr : NR s1) (hnx : s.h.next ≤ s1.h.next) (ht : s1.tm d2 = some (.flat (.slice A (dg N).length c))) (hd : d3 < s1.n ∧ d4 < s1.n) (hN : Num w0 (.slice A (dg N).length c) N) (h0 : 0 < (dg N).length) (hL : (dg N).length ≤ 1000000)
    (k : ∀ g c3, (dg N).length ≤ c3 → Q .normal ⟨upd (upd s1.tm d3 (some (.flat (.slice (some ⟨g, 0, none⟩) (dg N).length c3)))) d4 (some (.flat (.slice (some ⟨g, 0, none⟩) (dg N).length c3))), s1.n, s1.h, s1.ds⟩ (some (g, c3, dg N))) :
    WPd w0 Try.prog (.region idA opsA false) s none Q := by
 intro ρ a w R d dn
 obtain ⟨n1, n2⟩ := hd
 have hsz : opsA.size = pre.length + 2 := by rw [← Array.length_toList, hops]; simp
 refine wp_region ?_
 rw [hsz, show pre.length + 2 = pre.length + (([⟨some d3, .call ⟨.builtin .append, #[.const (.slice none 0 0), .tmp d2], #[50, 50]⟩, ty3, p3, f3, none⟩, ⟨some d4, .assign (.tmp d3), ty4, p4, f4, none⟩]) : List Oper).length from rfl, List.range_eq_range', ← List.range'_append_1]
 refine evOps_pre B.tab B.ok B.le pre 0 s s1 (fun j hj => by rw [hops, Nat.zero_add, List.getElem?_append_left hj]) hpre (Dn w0 none) ρ a w _ _ d.sr (fun i h1 _ => d.free i h1) fun ρ1 a1 w1 st1 sr1 => ?_
 have d1 : Sd w0 none ⟨ρ1.f, fun _ _ => False⟩ s1 a1 w1 := ⟨hnr.drop sr1, fun i hi => by
     show ρ1 i = none
     rw [st1.dom i (.inr hi)]; exact d.free i (Nat.le_trans hnx hi),
  ⟨st1.fr.os.trans d.bel.os, st1.fr.tape.trans d.bel.tape, st1.fr.output.trans d.bel.output, Nat.le_trans d.bel.size st1.fr.size, fun k hk => (st1.fr.block k (Nat.lt_of_lt_of_le hk d.bel.size) fun c => by have := c.1; omega).trans (d.bel.block k hk)⟩, fun x hx => (by cases hx), fun _ _ h => h⟩
 refine (congrFun (congrFun (wpOps_eq_wpList _ (0 + pre.length) (fun j => by
  rw [← Array.getElem?_toList, hops, List.getElem?_append_right (by omega)]
  congr 1
  omega)) _) _).mpr ?_
 have hev := d1.get ht
 obtain ⟨A1, c1, e1, hc1, hrd⟩ := hN
 cases e1
 have hrd1 := hrd.below d1.bel
 obtain ⟨ad, hA, _⟩ := hrd1.get h0
 subst hA
 obtain ⟨i0, hi0, hz0, hz1, hz2⟩ := info_parts info_u32
 refine wpList_append_grows _ rfl (.const (.slice none 0 0)) (.tmp d2) 50 rfl 86 i0 (.int .u32 0) 1 4 Try.underlying50 hi0 hz0 hz1 hz2 rfl (by decide) none 0 0 [] rfl (fun _ => ⟨rfl, rfl⟩) rfl (fun b e => by cases e) ad (dg N).length c (us (dg N)) hev (by rw [us_len, Nat.mul_one]) hrd1.cells1 (us_one _) (by omega) (by unfold maxLen; omega) (by omega) ?_
 intro v' w2 hown hgr
 rw [Nat.zero_add, List.nil_append] at hown
 obtain ⟨g, cap, rfl, hrow⟩ := Row.of_owned hown h0
 have hcap := hrow.block.2.1
 have dA := (d1.grown hgr hrow).set (d := d3) n1 (v := .flat (.slice (some ⟨g, 0, none⟩) (dg N).length cap)) (v' := .slice (some ⟨g, 0, none⟩) (dg N).length cap) (by simp [AV.rel])
 have e3 := (d1.grown hgr hrow).evalp (d := d3) (.slice (some ⟨g, 0, none⟩) (dg N).length cap) n1
 refine wpl_val rfl (v := .slice (some ⟨g, 0, none⟩) (dg N).length cap) (w' := w2) (by simp [execOp, e3]) ?_
 have dB := dA.set (d := d4) n2 (v := .flat (.slice (some ⟨g, 0, none⟩) (dg N).length cap)) (v' := .slice (some ⟨g, 0, none⟩) (dg N).length cap) (by simp [AV.rel])
 exact dn _ .normal _ _ _ _ _ dB (by simp only [ExRel]) (k g cap hcap)
theorem WPd.calls {f : FuncId} {fn : Func} {c : Code} (hf : Try.prog.funcs[f]? = some fn) (hb : fn.body = some c) {args : List AV} {tm : Nat → Option AV} (htm : putArgs args 0 noTmp = some tm) {nt : Nat} (hnt : fn.ntmps = nt) {rs : List ResultVar} (hrs : fn.results.toList = rs) {u : Value} {w : World} {args' : List Value} (ha : AV.relL ⟨fun _ => none, fun _ _ => False⟩ args args')
    (hw : WPd w Try.prog (bodyOf fn) (entry args nt Hp.empty tm) none fun e s' _ => endQ tab rs (fun e _ => e = .ret (.flat u)) e s') : Calls Try.prog f ⟨args'⟩ w fun e w' => e = .returned u ∧ Below w.heap.size w w' := by
 subst hnt hrs
 have e0 : bodyOf fn = c := by rw [bodyOf, hb]; rfl
 rw [e0] at hw
 have hD : Dn w none = fun b => w.heap.size ≤ b := by
  funext b
  simp [Dn]
 have hr1 : HR (Dn w none) ⟨fun _ => none, fun _ _ => False⟩ Hp.empty w := by
  rw [hD]
  exact ⟨fun i b n o h => (by cases h), fun i j b n m h => (by cases h), fun i _ => rfl, fun b h => h, fun ad l hl => hl.elim⟩
 refine calls_of_wp hf hb (hw _ _ w _ ⟨enter_rel hr1 ha htm, fun _ _ => rfl, Below.refl _ _, fun x hx => (by cases hx), fun _ _ h => h⟩ fun ρ' e e' s' γ' a' w' d' er q => ?_)
 obtain ⟨en, h3, h4⟩ := endQ_post tables.ok q
 subst h3
 refine h4 _ ρ' a' w' e' _ d'.sr er fun e2 he2 => ?_
 obtain ⟨v', rfl, hv⟩ := he2
 simp only [AV.rel] at hv
 subst hv
 exact ⟨rfl, d'.bel⟩
end Go.Proofs.Ytkffcclalncgdaa.Iv
end
section
set_option linter.unusedVariables false
set_option linter.unusedSimpArgs false
namespace Tx
def decL (n : Nat) : List Nat := if _h : n = 0 then [] else n % 10 :: decL (n / 10)
termination_by n
decreasing_by exact Nat.div_lt_self (by omega) (by omega)
theorem decL_zero : decL 0 = [] := by rw [decL, dif_pos rfl]
theorem decL_pos {n : Nat} (h : n ≠ 0) : decL n = n % 10 :: decL (n / 10) := by rw [decL, dif_neg h]
def padL : Nat → Nat → List Nat
 | 0, _ => []
 | k + 1, r => r % 10 :: padL k (r / 10)
theorem decL_split : ∀ (k N : Nat), N / 10 ^ k ≠ 0 → decL N = padL k (N % 10 ^ k) ++ decL (N / 10 ^ k)
 | 0, N, _ => by simp [padL]
 | k + 1, N, h => by
  have h0 : N ≠ 0 := by rintro rfl; simp at h
  have e1 : N / 10 ^ (k + 1) = N / 10 / 10 ^ k := by rw [Nat.div_div_eq_div_mul, Nat.pow_succ, Nat.mul_comm]
  rw [e1] at h ⊢
  rw [decL_pos h0, decL_split k (N / 10) h, padL, List.cons_append]
  have e2 : N % 10 ^ (k + 1) % 10 = N % 10 := by rw [Nat.pow_succ, Nat.mul_comm, Nat.mod_mul_right_mod]
  have e3 : N % 10 ^ (k + 1) / 10 = N / 10 % 10 ^ k := by rw [Nat.pow_succ, Nat.mul_comm, Nat.mod_mul_right_div_self]
  rw [e2, e3]
def tailL (q r k : Nat) : List Nat := if q = 0 then decL r else padL k r
theorem decL_tail (k N : Nat) : decL N = tailL (N / 10 ^ k) (N % 10 ^ k) k ++ decL (N / 10 ^ k) := by
 unfold tailL
 split
 ·rename_i h
  rw [h, decL_zero, List.append_nil]
  have hp : 0 < 10 ^ k := Nat.pow_pos (by omega)
  have := Nat.div_add_mod N (10 ^ k)
  rw [h, Nat.mul_zero, Nat.zero_add] at this
  rw [this]
 ·rename_i h; exact decL_split k N h
theorem tail_step {q r k : Nat} (h : q ≠ 0 ∨ r ≠ 0) : tailL q r (k + 1) = r % 10 :: tailL q (r / 10) k := by
 unfold tailL
 by_cases hq : q = 0
 ·rw [if_pos hq, if_pos hq, decL_pos (by omega)]
 ·rw [if_neg hq, if_neg hq, padL]
theorem tail_end {q r k : Nat} (hr : r < 10 ^ k) (h : k = 0 ∨ (q = 0 ∧ r = 0)) : tailL q r k = [] := by
 unfold tailL
 split
 ·have : r = 0 := by
    rcases h with h | h
    ·subst h; simpa using hr
    ·exact h.2
  rw [this, decL_zero]
 ·rcases h with h | h
  ·subst h; rfl
  ·omega
theorem decL_len : ∀ (k n : Nat), n < 10 ^ k → (decL n).length ≤ k
 | 0, n, h => by
  have : n = 0 := by simpa using h
  subst this; rw [decL_zero]; exact Nat.le_refl _
 | k + 1, n, h => by
  by_cases h0 : n = 0
  ·subst h0; rw [decL_zero]; exact Nat.zero_le _
  ·rw [decL_pos h0, List.length_cons]
   have := decL_len k (n / 10) (by rw [Nat.pow_succ] at h; omega)
   omega
def Turned {α : Type} (L C : List α) (i : Nat) : Prop := C.length = L.length ∧ ∀ x, x < L.length → C[x]? = if x < i ∨ L.length - i ≤ x then L[L.length - 1 - x]? else L[x]?
theorem Turned.start {α : Type} (L : List α) : Turned L L 0 := ⟨rfl, fun x hx => by rw [if_neg (by omega)]⟩
theorem Turned.step {α : Type} {L C : List α} {i : Nat} (h : Turned L C i) (hi : i < L.length - 1 - i) {a b : α} (ha : C[i]? = some a) (hb : C[L.length - 1 - i]? = some b) : Turned L ((C.set i b).set (L.length - 1 - i) a) (i + 1) := by
 refine ⟨by rw [List.length_set, List.length_set]; exact h.1, fun x hx => ?_⟩
 have ea := h.2 i (by omega)
 rw [ha, if_neg (by omega)] at ea
 have eb := h.2 (L.length - 1 - i) (by omega)
 rw [hb, if_neg (by omega)] at eb
 by_cases e1 : x = L.length - 1 - i
 ·subst e1
  rw [List.getElem?_set_self (by rw [List.length_set, h.1]; omega), if_pos (by omega), ea]
  congr 1; omega
 ·rw [List.getElem?_set_ne (by omega)]
  by_cases e2 : x = i
  ·subst e2
   rw [List.getElem?_set_self (by rw [h.1]; omega), if_pos (by omega), eb]
  ·rw [List.getElem?_set_ne (by omega), h.2 x hx]
   by_cases c : x < i ∨ L.length - i ≤ x
   ·rw [if_pos c, if_pos (by omega)]
   ·rw [if_neg c, if_neg (by omega)]
theorem Turned.done {α : Type} {L C : List α} {i : Nat} (h : Turned L C i) (hi : L.length - 1 - i ≤ i) : C = L.reverse := by
 apply List.ext_getElem?
 intro x
 by_cases hx : x < L.length
 ·rw [h.2 x hx, List.getElem?_reverse hx]
  split
  ·rfl
  ·congr 1; omega
 ·rw [List.getElem?_eq_none (by rw [h.1]; omega), List.getElem?_eq_none (by rw [List.length_reverse]; omega)]
end Tx
end
section
set_option maxHeartbeats 16000000
set_option linter.unusedVariables false
set_option linter.unusedSimpArgs false
set_option maxRecDepth 10000
namespace Go.Proofs.Ytkffcclalncgdaa.Iv
open Go Go.Iv Go.RowKit Go.Proofs.Ytkffcclalncgdaa.Nv Dg Tx
def nrT (tm : Nat → Option AV) : Prop := ∀ t, nr (match tm t with | some v => v | none => .tuple []) = true
def nrH (m : Nat → Option AO) : Prop := ∀ i o, m i = some o → nrO o
theorem NR.of {tm : Nat → Option AV} {n : Nat} {h : Hp} (h1 : nrT tm) (h2 : nrH h.m) : NR ⟨tm, n, h, []⟩ := ⟨h1, h2, rfl⟩
theorem nrT_no : nrT noTmp := fun t => rfl
theorem nrT_upd {tm : Nat → Option AV} {t : Nat} {v : AV} (h : nrT tm) (hv : nr v = true) : nrT (upd tm t (some v)) := fun u => by
 by_cases e : u = t
 ·subst e; rw [upd_eq]; exact hv
 ·rw [upd_ne _ _ e]; exact h u
theorem nrH_empty : nrH Hp.empty.m := fun i o h => by cases h
theorem nrH_upd {m : Nat → Option AO} {i : Nat} {o : AO} (h : nrH m) (ho : nrO o) : nrH (upd m i (some o)) := fun j o' hj => by
 by_cases e : j = i
 ·subst e; rw [upd_eq] at hj; cases hj; exact ho
 ·rw [upd_ne _ _ e] at hj; exact h j o' hj
theorem nrH_none {m : Nat → Option AO} {i : Nat} (h : nrH m) : nrH (upd m i none) := fun j o' hj => by
 by_cases e : j = i
 ·subst e; rw [upd_eq] at hj; cases hj
 ·rw [upd_ne _ _ e] at hj; exact h j o' hj
def bc (d : Nat) : AV := .flat (.int .u8 ((48 + d : Nat) : Int))
theorem nrL_bytes : ∀ l : List Nat, nrL (l.map bc) = true
 | [] => rfl
 | x :: l => by simp only [List.map_cons, nrL, nrL_bytes l]; rfl
theorem WPd.condT {w0 : World} {P : Program} {c : Operand} {x y : Code} {s : St} {γ : Gam} {Q : AExit → St → Gam → Prop} (hc : s.ev c = .flat (.bool true)) (k : WPd w0 P x s γ Q) : WPd w0 P (.cond c x y) s γ Q := WPd.cond hc (fun _ => k) (fun h => by cases h)
theorem WPd.condF {w0 : World} {P : Program} {c : Operand} {x y : Code} {s : St} {γ : Gam} {Q : AExit → St → Gam → Prop} (hc : s.ev c = .flat (.bool false)) (k : WPd w0 P y s γ Q) : WPd w0 P (.cond c x y) s γ Q := WPd.cond hc (fun h => by cases h) (fun _ => k)
theorem WPd.tms {w0 : World} {P : Program} {c : Code} {T : Nat → Option AV} {n : Nat} {h : Hp} {ds : List ADef} {γ : Gam} {Q : AExit → St → Gam → Prop} (S : Nat → Prop) (hT : nrT T) (k : ∀ tm, nrT tm → (∀ u, S u → tm u = T u) → WPd w0 P c ⟨tm, n, h, ds⟩ γ Q) : WPd w0 P c ⟨T, n, h, ds⟩ γ Q := k T hT fun _ _ => rfl
theorem WPd.name {w0 : World} {P : Program} {c : Code} {tm : Nat → Option AV} {n : Nat} {H : Hp} {ds : List ADef} {γ : Gam} {Q : AExit → St → Gam → Prop} (k : ∀ h, h = H → WPd w0 P c ⟨tm, n, h, ds⟩ γ Q) : WPd w0 P c ⟨tm, n, H, ds⟩ γ Q := k H rfl
def SlB (h : Hp) (v : AV) (l : List AV) : Prop := (l = [] ∧ v = .flat (.slice none 0 0)) ∨ ∃ B, v = .slice B 0 l.length (.toEnd 1) ∧ h.m B = some (.cells l 5 true)
def byteS (l : List Nat) : ByteArray := strOfNums (l.map fun d => ((48 + d : Nat) : Int))
theorem byteN_bc (l : List Nat) : byteN (l.map bc) = some (l.map fun d => ((48 + d : Nat) : Int)) := by
 have := byteN_map (l.map fun d => ((48 + d : Nat) : Int))
 rw [List.map_map] at this
 exact this
theorem bytes_at {h : Hp} {b : Nat} {D : List Nat} {x : Bool} {c : Cap} {t : TypeId} (hb : h.m b = some (.cells (D.map bc) t x)) : evBytes tab 88 9 (.slice b 0 D.length c) h = some (.flat (.string (byteS D))) := by
 have e1 : Nat.ble (0 + D.length) (D.map bc).length = true := by simp
 simp only [evBytes, ty88, ty9, ty5, Hp.get, hb, e1, cond_true, List.drop_zero]
 rw [List.take_of_length_le (by simp), byteN_bc]; rfl
theorem conv_no (b o n : Nat) (c : Cap) : evConvert tab 88 9 (.slice b o n c) = none := by simp [evConvert, ty88, ty9]
theorem lt_nx {h : Hp} (hb : ∀ i, h.next ≤ i → h.m i = none) {i : Nat} {o : AO} (k : h.m i = some o) : i < h.next := by
 apply Decidable.byContradiction
 intro c
 rw [hb i (by omega)] at k; cases k
theorem fwrap_nat32 {n : Nat} (h : n < 4294967296) : fwrap .u32 (n : Int) = (n : Int) := by
 rw [fwrap_eq]
 show (n : Int) % 4294967296 = n
 omega
theorem fwrap_nat8 {n : Nat} (h : n < 256) : fwrap .u8 (n : Int) = (n : Int) := by
 rw [fwrap_eq]
 show (n : Int) % 256 = n
 omega
theorem clean_u8 : ∀ l : List Nat, allClean (l.map bc) = true
 | [] => rfl
 | x :: l => by simp only [List.map_cons, allClean, clean_u8 l]; rfl
theorem cleanU8 : cleanV [Value.int .u8 0] = true := rfl
def decS (n : Nat) : ByteArray := if n = 0 then byteS [0] else byteS (decL n).reverse
theorem nText_calls (N : Nat) (v : Value) (w : World) (hN : Num w v N) (hl : (dg N).length ≤ 1000) :
    Calls Try.prog 30 #[.agg #[v]] w fun e w' => e = .returned (.string (decS N)) ∧ Below w.heap.size w w' := by
 have hN0 := hN
 obtain ⟨A, c, rfl, hc, hrd⟩ := hN
 refine WPd.calls (args := [.agg [.flat (.slice A (dg N).length c)]]) (args' := [.agg #[.slice A (dg N).length c]]) Try.func30 rfl rfl rfl rfl ?_ ?_
 ·refine relL_cons.2 ⟨_, _, rfl, ?_, relL_nil.2 rfl⟩
  simp only [AV.rel]
  exact ⟨_, rfl, relL_cons.2 ⟨_, _, rfl, by simp [AV.rel], relL_nil.2 rfl⟩⟩
 have B := base0
 have hNd : (decL N).length ≤ 10000 := by
  refine decL_len 10000 N ?_
  have h1 := val_lt (dg_ok' N)
  rw [val_dg'] at h1
  obtain ⟨E, hE⟩ : ∃ E, E = 1000 := ⟨_, rfl⟩
  have h2 : 4294967296 ^ (dg N).length ≤ 4294967296 ^ E := Nat.pow_le_pow_right (by omega) (by omega)
  have h3 : 4294967296 ^ E ≤ (10 ^ 10) ^ E := Nat.pow_le_pow_left (by decide) E
  rw [← Nat.pow_mul] at h3
  have h4 : 10 * E = 10000 := by omega
  rw [h4] at h3
  omega
 by_cases n0 : N = 0
 ·subst n0
  rw [dg_zero] at *
  unfold Try.f30 bodyOf entry; simp only [Option.getD_some, List.length_cons, List.length_nil, Nat.reduceAdd, Nat.reduceSub]
  repeat (first
   | refine WPd.seq ?_ | refine WPd.block ?_
   | (refine WPd.lift (Fz := False) ?_; (first | refine wp_skipQ ?_ | refine wp_labelQ ?_ | refine wp_exitQ ?_ | refine wp_retQ ?_); (refine ⟨⟨NR.of ?_ ?_, fun v e => by cases e⟩, ?_⟩; (repeat' (first | assumption | refine nrT_upd ?_ (by first | rfl | assumption) | exact nrT_no | refine nrH_none ?_ | refine nrH_upd ?_ (by first | rfl | assumption | (simp only [nrO, nrL_bytes]) ) | exact nrH_empty)); (repeat' (first | assumption | refine nrT_upd ?_ (by first | rfl | assumption) | exact nrT_no | refine nrH_none ?_ | refine nrH_upd ?_ (by first | rfl | assumption | (simp only [nrO, nrL_bytes]) ) | exact nrH_empty)); (try simp only [thenD, blkD, Nat.reduceEqDiff, reduceIte])))
   | (refine WPd.lift (Fz := False) ?_; (first | refine wp_dreg B (id := 16) [0, 0, 0, 0, 0, 0, 48, 112, 0, 0, 768, 1792, 4083, 8179, 16383, 32767] (by kernel_rfl) ?_ | refine wp_reg B ?_); simp (disch := omega) only [kW, kG, Nat.reduceEqDiff, reduceIte, Nat.reduceLT, Nat.reduceLeDiff, Nat.reduceAdd, Nat.reduceSub, Nat.reduceMul, Nat.reducePow, Nat.reduceDiv, Nat.reduceMod, evIndexAddr, TD.agg, evFieldAddr, ty3, ty5, ty9, ty50, ty52, ty86, ty88, fn50, fn49]; (refine ⟨⟨NR.of ?_ ?_, fun v e => by cases e⟩, ?_⟩; (repeat' (first | assumption | refine nrT_upd ?_ (by first | rfl | assumption) | exact nrT_no | refine nrH_none ?_ | refine nrH_upd ?_ (by first | rfl | assumption | (simp only [nrO, nrL_bytes]) ) | exact nrH_empty)); (repeat' (first | assumption | refine nrT_upd ?_ (by first | rfl | assumption) | exact nrT_no | refine nrH_none ?_ | refine nrH_upd ?_ (by first | rfl | assumption | (simp only [nrO, nrL_bytes]) ) | exact nrH_empty)); (try simp only [thenD, blkD, Nat.reduceEqDiff, reduceIte])))
   | refine WPd.condT rfl ?_ | refine WPd.condF rfl ?_)
  simp only [endQ_ret]
  simp (disch := omega) only [kS, Nat.reduceEqDiff, reduceIte, Nat.reduceLT, Nat.reduceLeDiff, Nat.reduceAdd, Nat.reduceSub, Nat.reduceMul, Nat.reducePow, Nat.reduceDiv, Nat.reduceMod, evIndexAddr, TD.agg, evFieldAddr, ty3, ty5, ty9, ty50, ty52, ty86, ty88, fn50, fn49]
  rfl
 ·have d0 : 0 < (dg N).length := by rw [dg_pos n0]; simp
  obtain ⟨K, hK⟩ : ∃ K, K = (dg N).length := ⟨_, rfl⟩
  rw [← hK] at d0 hN0 hl ⊢
  unfold Try.f30 bodyOf entry; simp only [Option.getD_some, List.length_cons, List.length_nil, Nat.reduceAdd, Nat.reduceSub]
  repeat (first
   | refine WPd.seq ?_ | refine WPd.block ?_
   | (refine WPd.lift (Fz := False) ?_; (first | refine wp_skipQ ?_ | refine wp_labelQ ?_ | refine wp_exitQ ?_ | refine wp_retQ ?_); (refine ⟨⟨NR.of ?_ ?_, fun v e => by cases e⟩, ?_⟩; (repeat' (first | assumption | refine nrT_upd ?_ (by first | rfl | assumption) | exact nrT_no | refine nrH_none ?_ | refine nrH_upd ?_ (by first | rfl | assumption | (simp only [nrO, nrL_bytes]) ) | exact nrH_empty)); (repeat' (first | assumption | refine nrT_upd ?_ (by first | rfl | assumption) | exact nrT_no | refine nrH_none ?_ | refine nrH_upd ?_ (by first | rfl | assumption | (simp only [nrO, nrL_bytes]) ) | exact nrH_empty)); (try simp only [thenD, blkD, Nat.reduceEqDiff, reduceIte])))
   | ((fail_if_success refine WPd.lift (Fz := False) (wp_reg (id := 3) B ?_)); refine WPd.lift (Fz := False) ?_; (first | refine wp_dreg B (id := 16) [0, 0, 0, 0, 0, 0, 48, 112, 0, 0, 768, 1792, 4083, 8179, 16383, 32767] (by kernel_rfl) ?_ | refine wp_reg B ?_); simp (disch := omega) only [kW, kG, Nat.reduceEqDiff, reduceIte, Nat.reduceLT, Nat.reduceLeDiff, Nat.reduceAdd, Nat.reduceSub, Nat.reduceMul, Nat.reducePow, Nat.reduceDiv, Nat.reduceMod, evIndexAddr, TD.agg, evFieldAddr, ty3, ty5, ty9, ty50, ty52, ty86, ty88, fn50, fn49]; (refine ⟨⟨NR.of ?_ ?_, fun v e => by cases e⟩, ?_⟩; (repeat' (first | assumption | refine nrT_upd ?_ (by first | rfl | assumption) | exact nrT_no | refine nrH_none ?_ | refine nrH_upd ?_ (by first | rfl | assumption | (simp only [nrO, nrL_bytes]) ) | exact nrH_empty)); (repeat' (first | assumption | refine nrT_upd ?_ (by first | rfl | assumption) | exact nrT_no | refine nrH_none ?_ | refine nrH_upd ?_ (by first | rfl | assumption | (simp only [nrO, nrL_bytes]) ) | exact nrH_empty)); (try simp only [thenD, blkD, Nat.reduceEqDiff, reduceIte])))
   | refine WPd.condT rfl ?_ | refine WPd.condF rfl ?_)
  refine WPd.tms (fun u => u = 1) (by (repeat' (first | assumption | refine nrT_upd ?_ (by first | rfl | assumption) | exact nrT_no | refine nrH_none ?_ | refine nrH_upd ?_ (by first | rfl | assumption | (simp only [nrO, nrL_bytes]) ) | exact nrH_empty))) fun tm hnrT hT => ?_
  have t1 : tm 1 = some (.ptr 0 0) := (hT 1 (by simp)).trans rfl
  clear hT
  refine WPd.name fun h0 hh0 => ?_
  have m0 : h0.m 0 = some (.cells [.flat (.slice A K c)] 52 false) := by rw [hh0]; rfl
  have x0 : h0.next = 1 := by rw [hh0]; rfl
  have hnrH : nrH h0.m := by rw [hh0]; exact nrH_upd nrH_empty rfl
  have born0 : ∀ i, h0.next ≤ i → h0.m i = none := fun i hi => by
   rw [x0] at hi
   rw [hh0]
   show upd Hp.empty.m 0 _ i = none
   rw [upd_ne _ _ (by omega)]; rfl
  clear hh0
  refine WPd.copy (A := A) (c := c) (N := N) (d2 := 14) (s1 := ⟨upd (upd tm 13 (some (.ptr 0 0))) 14 (some (.flat (.slice A K c))), 72, h0, []⟩) B (pre := [_, _]) rfl ?_ ?_ (Nat.le_refl _) ?_ ⟨by show _ < 72; decide, by show _ < 72; decide⟩ (by rw [← hK]; exact hN0) (by omega) (by omega) fun g c3 hc3 => ?_
  ·simp (disch := omega) only [kW, kG, Nat.reduceEqDiff, reduceIte, Nat.reduceLT, Nat.reduceLeDiff, Nat.reduceAdd, Nat.reduceSub, Nat.reduceMul, Nat.reducePow, Nat.reduceDiv, Nat.reduceMod, evIndexAddr, TD.agg, evFieldAddr, ty3, ty5, ty9, ty50, ty52, ty86, ty88, fn50, fn49, t1, m0]
  ·refine NR.of ?_ ?_ <;> (repeat' (first | assumption | refine nrT_upd ?_ (by first | rfl | assumption) | exact nrT_no | refine nrH_none ?_ | refine nrH_upd ?_ (by first | rfl | assumption | (simp only [nrO, nrL_bytes]) ) | exact nrH_empty))
  ·rw [hK]; rfl
  simp only [thenD]
  refine WPd.tms (fun u => u = 3) (by (repeat' (first | assumption | refine nrT_upd ?_ (by first | rfl | assumption) | exact nrT_no | refine nrH_none ?_ | refine nrH_upd ?_ (by first | rfl | assumption | (simp only [nrO, nrL_bytes]) ) | exact nrH_empty))) fun tm2 hnrT2 hT => ?_
  have t3 : tm2 3 = some (.flat (.slice (some ⟨g, 0, none⟩) (dg N).length c3)) := (hT 3 (by simp)).trans rfl
  clear hT t1 hnrT tm
  refine WPd.seq ?_
  refine WPd.lift (Fz := False) ?_
  refine wp_reg B ?_
  simp (disch := omega) only [kW, kG, Nat.reduceEqDiff, reduceIte, Nat.reduceLT, Nat.reduceLeDiff, Nat.reduceAdd, Nat.reduceSub, Nat.reduceMul, Nat.reducePow, Nat.reduceDiv, Nat.reduceMod, evIndexAddr, TD.agg, evFieldAddr, ty3, ty5, ty9, ty50, ty52, ty86, ty88, fn50, fn49, t3]
  refine ⟨⟨NR.of (by (repeat' (first | assumption | refine nrT_upd ?_ (by first | rfl | assumption) | exact nrT_no | refine nrH_none ?_ | refine nrH_upd ?_ (by first | rfl | assumption | (simp only [nrO, nrL_bytes]) ) | exact nrH_empty))) hnrH, fun v e => by cases e⟩, ?_⟩
  simp only [thenD]
  refine WPd.seq ?_
  refine WPd.block ?_
  refine WPd.loop (fun n z γ => ∃ (M : Nat) (tm : Nat → Option AV) (hh : Hp) (v4 : AV) (out : List Nat) (cc cq : Nat), z = ⟨tm, 72, hh, []⟩ ∧ γ = some (g, cq, dg M) ∧ M < (10 ^ 9) ^ n ∧ tm 3 = some (.flat (.slice (some ⟨g, 0, none⟩) (dg M).length cc)) ∧ (dg M).length ≤ cc ∧ (dg M).length ≤ 1000 ∧ tm 4 = some v4 ∧
   SlB hh v4 (out.map bc) ∧ out ++ decL M = decL N ∧ nrT tm ∧ nrH hh.m ∧ (∀ i, hh.next ≤ i → hh.m i = none)) N ?_ ?_
  ·exact ⟨N, _, h0, _, [], c3, c3, rfl, rfl, Nat.lt_pow_self (by decide), t3, hc3, by omega, rfl, .inl ⟨rfl, rfl⟩, rfl, by (repeat' (first | assumption | refine nrT_upd ?_ (by first | rfl | assumption) | exact nrT_no | refine nrH_none ?_ | refine nrH_upd ?_ (by first | rfl | assumption | (simp only [nrO, nrL_bytes]) ) | exact nrH_empty)), hnrH, born0⟩
  ·rintro n z γ ⟨M, tm, hh, v4, out, cc, cq, rfl, rfl, hM, t3, hcc, hMl, t4, hv4, hout, hnrT, hnrH, hborn⟩
   by_cases hM0 : M = 0
   ·subst hM0
    rw [dg_zero] at t3
    repeat (first
     | refine WPd.seq ?_ | refine WPd.block ?_
     | (refine WPd.lift (Fz := False) ?_; (first | refine wp_skipQ ?_ | refine wp_labelQ ?_ | refine wp_exitQ ?_ | refine wp_retQ ?_); (refine ⟨⟨NR.of ?_ ?_, fun v e => by cases e⟩, ?_⟩; (repeat' (first | assumption | refine nrT_upd ?_ (by first | rfl | assumption) | exact nrT_no | refine nrH_none ?_ | refine nrH_upd ?_ (by first | rfl | assumption | (simp only [nrO, nrL_bytes]) ) | exact nrH_empty)); (repeat' (first | assumption | refine nrT_upd ?_ (by first | rfl | assumption) | exact nrT_no | refine nrH_none ?_ | refine nrH_upd ?_ (by first | rfl | assumption | (simp only [nrO, nrL_bytes]) ) | exact nrH_empty)); (try simp only [thenD, blkD, Nat.reduceEqDiff, reduceIte])))
     | (refine WPd.lift (Fz := False) ?_; (first | refine wp_dreg B (id := 16) [0, 0, 0, 0, 0, 0, 48, 112, 0, 0, 768, 1792, 4083, 8179, 16383, 32767] (by kernel_rfl) ?_ | refine wp_reg B ?_); simp (disch := omega) only [kW, kG, Nat.reduceEqDiff, reduceIte, Nat.reduceLT, Nat.reduceLeDiff, Nat.reduceAdd, Nat.reduceSub, Nat.reduceMul, Nat.reducePow, Nat.reduceDiv, Nat.reduceMod, evIndexAddr, TD.agg, evFieldAddr, ty3, ty5, ty9, ty50, ty52, ty86, ty88, fn50, fn49, t3]; (refine ⟨⟨NR.of ?_ ?_, fun v e => by cases e⟩, ?_⟩; (repeat' (first | assumption | refine nrT_upd ?_ (by first | rfl | assumption) | exact nrT_no | refine nrH_none ?_ | refine nrH_upd ?_ (by first | rfl | assumption | (simp only [nrO, nrL_bytes]) ) | exact nrH_empty)); (repeat' (first | assumption | refine nrT_upd ?_ (by first | rfl | assumption) | exact nrT_no | refine nrH_none ?_ | refine nrH_upd ?_ (by first | rfl | assumption | (simp only [nrO, nrL_bytes]) ) | exact nrH_empty)); (try simp only [thenD, blkD, Nat.reduceEqDiff, reduceIte])))
     | refine WPd.condT rfl ?_ | refine WPd.condF rfl ?_)
    rw [decL_zero, List.append_nil] at hout
    subst hout
    obtain ⟨nn, hnn⟩ : ∃ nn, nn = (decL N).length := ⟨_, rfl⟩
    have nn0 : 0 < nn := by rw [hnn, decL_pos n0]; simp
    have nn9 : nn ≤ 10000 := by rw [hnn]; exact hNd
    rcases hv4 with ⟨e, _⟩ | ⟨Bo, rfl, hBo⟩
    ·have := congrArg List.length e
     simp only [List.length_map, List.length_nil] at this
     omega
    ·rw [List.length_map, ← hnn] at t4
     have lBo := lt_nx hborn hBo
     repeat (first
      | refine WPd.seq ?_ | refine WPd.block ?_
      | (refine WPd.lift (Fz := False) ?_; (first | refine wp_skipQ ?_ | refine wp_labelQ ?_ | refine wp_exitQ ?_ | refine wp_retQ ?_); (refine ⟨⟨NR.of ?_ ?_, fun v e => by cases e⟩, ?_⟩; (repeat' (first | assumption | refine nrT_upd ?_ (by first | rfl | assumption) | exact nrT_no | refine nrH_none ?_ | refine nrH_upd ?_ (by first | rfl | assumption | (simp only [nrO, nrL_bytes]) ) | exact nrH_empty)); (repeat' (first | assumption | refine nrT_upd ?_ (by first | rfl | assumption) | exact nrT_no | refine nrH_none ?_ | refine nrH_upd ?_ (by first | rfl | assumption | (simp only [nrO, nrL_bytes]) ) | exact nrH_empty)); (try simp only [thenD, blkD, Nat.reduceEqDiff, reduceIte])))
      | ((fail_if_success refine WPd.lift (Fz := False) (wp_reg (id := 14) B ?_)); refine WPd.lift (Fz := False) ?_; (first | refine wp_dreg B (id := 16) [0, 0, 0, 0, 0, 0, 48, 112, 0, 0, 768, 1792, 4083, 8179, 16383, 32767] (by kernel_rfl) ?_ | refine wp_reg B ?_); simp (disch := omega) only [kW, kG, Nat.reduceEqDiff, reduceIte, Nat.reduceLT, Nat.reduceLeDiff, Nat.reduceAdd, Nat.reduceSub, Nat.reduceMul, Nat.reducePow, Nat.reduceDiv, Nat.reduceMod, evIndexAddr, TD.agg, evFieldAddr, ty3, ty5, ty9, ty50, ty52, ty86, ty88, fn50, fn49, t4]; (refine ⟨⟨NR.of ?_ ?_, fun v e => by cases e⟩, ?_⟩; (repeat' (first | assumption | refine nrT_upd ?_ (by first | rfl | assumption) | exact nrT_no | refine nrH_none ?_ | refine nrH_upd ?_ (by first | rfl | assumption | (simp only [nrO, nrL_bytes]) ) | exact nrH_empty)); (repeat' (first | assumption | refine nrT_upd ?_ (by first | rfl | assumption) | exact nrT_no | refine nrH_none ?_ | refine nrH_upd ?_ (by first | rfl | assumption | (simp only [nrO, nrL_bytes]) ) | exact nrH_empty)); (try simp only [thenD, blkD, Nat.reduceEqDiff, reduceIte])))
      | refine WPd.condT rfl ?_ | refine WPd.condF rfl ?_)
     refine WPd.tms (fun u => u = 4 ∨ u = 7 ∨ u = 8) (by (repeat' (first | assumption | refine nrT_upd ?_ (by first | rfl | assumption) | exact nrT_no | refine nrH_none ?_ | refine nrH_upd ?_ (by first | rfl | assumption | (simp only [nrO, nrL_bytes]) ) | exact nrH_empty))) fun tm5 hnrT5 hT => ?_
     have u4 : tm5 4 = some (.slice Bo 0 nn (.toEnd 1)) := (hT 4 (by simp)).trans t4
     have u7 : tm5 7 = some (.flat (.int .i64 0)) := (hT 7 (by simp)).trans rfl
     have u8 : tm5 8 = some (.flat (.int .i64 ((nn : Int) - 1))) := (hT 8 (by simp)).trans rfl
     clear hT t4 hnrT t3 tm
     refine WPd.lift (Fz := False) ?_
     refine wp_loopQ (fun f' z => ∃ (i : Nat) (tm : Nat → Option AV) (h6 : Hp) (C : List Nat), z = ⟨tm, 72, h6, []⟩ ∧ f' = nn - i ∧ i ≤ nn ∧ 2 * i ≤ nn + 1 ∧ tm 4 = some (.slice Bo 0 nn (.toEnd 1)) ∧ tm 7 = some (.flat (.int .i64 (i : Int))) ∧ tm 8 = some (.flat (.int .i64 ((nn : Int) - 1 - (i : Int)))) ∧
      h6.m Bo = some (.cells (C.map bc) 5 true) ∧ Turned (decL N) C i ∧ nrT tm ∧ nrH h6.m ∧ (∀ i, h6.next ≤ i → h6.m i = none)) nn ?_ ?_
     ·exact ⟨0, tm5, hh, decL N, rfl, rfl, Nat.zero_le _, by omega, u4, u7, by simpa using u8, hBo, Turned.start _, hnrT5, hnrH, hborn⟩
     ·rintro f' z ⟨i, tm, h6, C, rfl, rfl, hi, hi2, t4, t7, t8, hB6, hTu, hnrT, hnrH, hborn6⟩
      have hCl : C.length = nn := by rw [hTu.1, hnn]
      have lB6 := lt_nx hborn6 hB6
      by_cases hlt : (i : Int) < (nn : Int) - 1 - (i : Int)
      ·obtain ⟨j, hj⟩ : ∃ j : Nat, j = nn - 1 - i := ⟨_, rfl⟩
       have ej : (nn : Int) - 1 - (i : Int) = (j : Int) := by omega
       rw [ej] at t8 hlt
       obtain ⟨x, hx⟩ : ∃ x, C[i]? = some x := ⟨_, List.getElem?_eq_getElem (by omega)⟩
       obtain ⟨y, hy⟩ : ∃ y, C[j]? = some y := ⟨_, List.getElem?_eq_getElem (by omega)⟩
       have hxc : (C.map bc)[i]? = some (.flat (.int .u8 ((48 + x : Nat) : Int))) := by rw [List.getElem?_map, hx]; rfl
       have hyc : (C.map bc)[j]? = some (.flat (.int .u8 ((48 + y : Nat) : Int))) := by rw [List.getElem?_map, hy]; rfl
       have hll : (C.map bc).length = nn := by rw [List.length_map, hCl]
       have hst := hTu.step (i := i) (a := x) (b := y) (by rw [← hnn]; omega) hx (by rw [← hnn, ← hj]; exact hy)
       rw [← hnn, ← hj] at hst
       repeat (first
        | refine wp_seqQ ?_ | refine wp_blockQ ?_ | refine wp_scopeQ ?_
        | ((first | refine wp_skipQ ?_ | refine wp_labelQ ?_ | refine wp_exitQ ?_ | refine wp_retQ ?_); simp only [kQ, Nat.reduceEqDiff, reduceIte])
        | ((first | refine wp_dreg B (id := 16) [0, 0, 0, 0, 0, 0, 48, 112, 0, 0, 768, 1792, 4083, 8179, 16383, 32767] (by kernel_rfl) ?_ | refine wp_reg B ?_); simp (disch := omega) only [kW, kG, Nat.reduceEqDiff, reduceIte, Nat.reduceLT, Nat.reduceLeDiff, Nat.reduceAdd, Nat.reduceSub, Nat.reduceMul, Nat.reducePow, Nat.reduceDiv, Nat.reduceMod, evIndexAddr, TD.agg, evFieldAddr, ty3, ty5, ty9, ty50, ty52, ty86, ty88, fn50, fn49, t4, t7, t8, hB6, hxc, hyc, hll])
        | refine wp_condT rfl ?_ | refine wp_condF rfl ?_)
       have hs1 : nrL ((C.map bc).set i (bc y)) = true := by have := nrL_bytes (C.set i y); rwa [List.map_set] at this
       have hs2 : nrL (((C.map bc).set i (bc y)).set j (bc x)) = true := by have := nrL_bytes ((C.set i y).set j x); rwa [List.map_set, List.map_set] at this
       have e8 : (nn : Int) - 1 - ((i + 1 : Nat) : Int) = (j : Int) - 1 := by omega
       refine ⟨_, ?_, i + 1, _, _, (C.set i y).set j x, rfl, rfl, by omega, by omega, t4, rfl, by rw [e8]; rfl, ?_, hst, by (repeat' (first | assumption | refine nrT_upd ?_ (by first | rfl | assumption) | exact nrT_no | refine nrH_none ?_ | refine nrH_upd ?_ (by first | rfl | assumption | (simp only [nrO, nrL_bytes]) ) | exact nrH_empty)), nrH_upd (nrH_upd hnrH hs1) hs2, fun a ha => ?_⟩
       ·omega
       ·dsimp only; rw [upd_eq, List.map_set, List.map_set]; rfl
       ·dsimp only at ha ⊢; rw [upd_ne _ _ (by omega), upd_ne _ _ (by omega)]; exact hborn6 a ha
      ·have hCe := hTu.done (by rw [← hnn]; omega)
       have hbt : evBytes tab 88 9 (.slice Bo 0 nn (.toEnd 1)) h6 = some (.flat (.string (byteS C))) := by rw [← hCl]; exact bytes_at hB6
       repeat (first
        | refine wp_seqQ ?_ | refine wp_blockQ ?_ | refine wp_scopeQ ?_
        | ((first | refine wp_skipQ ?_ | refine wp_labelQ ?_ | refine wp_exitQ ?_ | refine wp_retQ ?_); simp only [kQ, Nat.reduceEqDiff, reduceIte])
        | ((first | refine wp_dreg B (id := 16) [0, 0, 0, 0, 0, 0, 48, 112, 0, 0, 768, 1792, 4083, 8179, 16383, 32767] (by kernel_rfl) ?_ | refine wp_reg B ?_); simp (disch := omega) only [kW, kG, Nat.reduceEqDiff, reduceIte, Nat.reduceLT, Nat.reduceLeDiff, Nat.reduceAdd, Nat.reduceSub, Nat.reduceMul, Nat.reducePow, Nat.reduceDiv, Nat.reduceMod, evIndexAddr, TD.agg, evFieldAddr, ty3, ty5, ty9, ty50, ty52, ty86, ty88, fn50, fn49, t4, t7, t8])
        | refine wp_condT rfl ?_ | refine wp_condF rfl ?_)
       refine ⟨⟨NR.of (by (repeat' (first | assumption | refine nrT_upd ?_ (by first | rfl | assumption) | exact nrT_no | refine nrH_none ?_ | refine nrH_upd ?_ (by first | rfl | assumption | (simp only [nrO, nrL_bytes]) ) | exact nrH_empty))) hnrH, fun v e => by cases e⟩, ?_⟩
       simp only [blkD, if_true, thenD]
       refine WPd.tms (fun u => u = 4) (by (repeat' (first | assumption | refine nrT_upd ?_ (by first | rfl | assumption) | exact nrT_no | refine nrH_none ?_ | refine nrH_upd ?_ (by first | rfl | assumption | (simp only [nrO, nrL_bytes]) ) | exact nrH_empty))) fun tm7 hnrT7 hT => ?_
       have w4 : tm7 4 = some (.slice Bo 0 nn (.toEnd 1)) := (hT 4 (by simp)).trans t4
       repeat (first
        | refine WPd.seq ?_ | refine WPd.block ?_
        | (refine WPd.lift (Fz := False) ?_; (first | refine wp_skipQ ?_ | refine wp_labelQ ?_ | refine wp_exitQ ?_ | refine wp_retQ ?_); (refine ⟨⟨NR.of ?_ ?_, fun v e => by cases e⟩, ?_⟩; (repeat' (first | assumption | refine nrT_upd ?_ (by first | rfl | assumption) | exact nrT_no | refine nrH_none ?_ | refine nrH_upd ?_ (by first | rfl | assumption | (simp only [nrO, nrL_bytes]) ) | exact nrH_empty)); (repeat' (first | assumption | refine nrT_upd ?_ (by first | rfl | assumption) | exact nrT_no | refine nrH_none ?_ | refine nrH_upd ?_ (by first | rfl | assumption | (simp only [nrO, nrL_bytes]) ) | exact nrH_empty)); (try simp only [thenD, blkD, Nat.reduceEqDiff, reduceIte])))
        | (refine WPd.lift (Fz := False) ?_; (first | refine wp_dreg B (id := 16) [0, 0, 0, 0, 0, 0, 48, 112, 0, 0, 768, 1792, 4083, 8179, 16383, 32767] (by kernel_rfl) ?_ | refine wp_reg B ?_); simp (disch := omega) only [kW, kG, Nat.reduceEqDiff, reduceIte, Nat.reduceLT, Nat.reduceLeDiff, Nat.reduceAdd, Nat.reduceSub, Nat.reduceMul, Nat.reducePow, Nat.reduceDiv, Nat.reduceMod, evIndexAddr, TD.agg, evFieldAddr, ty3, ty5, ty9, ty50, ty52, ty86, ty88, fn50, fn49, w4, conv_no, hbt]; (refine ⟨⟨NR.of ?_ ?_, fun v e => by cases e⟩, ?_⟩; (repeat' (first | assumption | refine nrT_upd ?_ (by first | rfl | assumption) | exact nrT_no | refine nrH_none ?_ | refine nrH_upd ?_ (by first | rfl | assumption | (simp only [nrO, nrL_bytes]) ) | exact nrH_empty)); (repeat' (first | assumption | refine nrT_upd ?_ (by first | rfl | assumption) | exact nrT_no | refine nrH_none ?_ | refine nrH_upd ?_ (by first | rfl | assumption | (simp only [nrO, nrL_bytes]) ) | exact nrH_empty)); (try simp only [thenD, blkD, Nat.reduceEqDiff, reduceIte])))
        | refine WPd.condT rfl ?_ | refine WPd.condF rfl ?_)
       simp only [endQ_ret]
       simp (disch := omega) only [kS, Nat.reduceEqDiff, reduceIte, Nat.reduceLT, Nat.reduceLeDiff, Nat.reduceAdd, Nat.reduceSub, Nat.reduceMul, Nat.reducePow, Nat.reduceDiv, Nat.reduceMod, evIndexAddr, TD.agg, evFieldAddr, ty3, ty5, ty9, ty50, ty52, ty86, ty88, fn50, fn49]
       rw [hCe, decS, if_neg n0]
   ·obtain ⟨KM, hKM⟩ : ∃ KM, KM = (dg M).length := ⟨_, rfl⟩
    have dM : 0 < KM := by rw [hKM, dg_pos hM0]; simp
    rw [← hKM] at t3 hcc hMl
    repeat (first
     | refine WPd.seq ?_ | refine WPd.block ?_
     | (refine WPd.lift (Fz := False) ?_; (first | refine wp_skipQ ?_ | refine wp_labelQ ?_ | refine wp_exitQ ?_ | refine wp_retQ ?_); (refine ⟨⟨NR.of ?_ ?_, fun v e => by cases e⟩, ?_⟩; (repeat' (first | assumption | refine nrT_upd ?_ (by first | rfl | assumption) | exact nrT_no | refine nrH_none ?_ | refine nrH_upd ?_ (by first | rfl | assumption | (simp only [nrO, nrL_bytes]) ) | exact nrH_empty)); (repeat' (first | assumption | refine nrT_upd ?_ (by first | rfl | assumption) | exact nrT_no | refine nrH_none ?_ | refine nrH_upd ?_ (by first | rfl | assumption | (simp only [nrO, nrL_bytes]) ) | exact nrH_empty)); (try simp only [thenD, blkD, Nat.reduceEqDiff, reduceIte])))
     | ((fail_if_success refine WPd.lift (Fz := False) (wp_reg (id := 6) B ?_)); refine WPd.lift (Fz := False) ?_; (first | refine wp_dreg B (id := 16) [0, 0, 0, 0, 0, 0, 48, 112, 0, 0, 768, 1792, 4083, 8179, 16383, 32767] (by kernel_rfl) ?_ | refine wp_reg B ?_); simp (disch := omega) only [kW, kG, Nat.reduceEqDiff, reduceIte, Nat.reduceLT, Nat.reduceLeDiff, Nat.reduceAdd, Nat.reduceSub, Nat.reduceMul, Nat.reducePow, Nat.reduceDiv, Nat.reduceMod, evIndexAddr, TD.agg, evFieldAddr, ty3, ty5, ty9, ty50, ty52, ty86, ty88, fn50, fn49, t3]; (refine ⟨⟨NR.of ?_ ?_, fun v e => by cases e⟩, ?_⟩; (repeat' (first | assumption | refine nrT_upd ?_ (by first | rfl | assumption) | exact nrT_no | refine nrH_none ?_ | refine nrH_upd ?_ (by first | rfl | assumption | (simp only [nrO, nrL_bytes]) ) | exact nrH_empty)); (repeat' (first | assumption | refine nrT_upd ?_ (by first | rfl | assumption) | exact nrT_no | refine nrH_none ?_ | refine nrH_upd ?_ (by first | rfl | assumption | (simp only [nrO, nrL_bytes]) ) | exact nrH_empty)); (try simp only [thenD, blkD, Nat.reduceEqDiff, reduceIte])))
     | refine WPd.condT rfl ?_ | refine WPd.condF rfl ?_)
    refine WPd.tms (fun u => u = 3 ∨ u = 4) (by (repeat' (first | assumption | refine nrT_upd ?_ (by first | rfl | assumption) | exact nrT_no | refine nrH_none ?_ | refine nrH_upd ?_ (by first | rfl | assumption | (simp only [nrO, nrL_bytes]) ) | exact nrH_empty))) fun tm5 hnrT5 hT => ?_
    have u3 : tm5 3 = some (.flat (.slice (some ⟨g, 0, none⟩) (dg M).length cc)) := by rw [← hKM]; exact (hT 3 (by simp)).trans t3
    have u4 : tm5 4 = some v4 := (hT 4 (by simp)).trans t4
    clear hT t3 t4 hnrT tm
    obtain ⟨q, hq⟩ : ∃ q, q = M / 10 ^ 9 := ⟨_, rfl⟩
    obtain ⟨r, hr⟩ : ∃ r, r = M % 10 ^ 9 := ⟨_, rfl⟩
    have hr9 : r < 10 ^ 9 := by rw [hr]; exact Nat.mod_lt _ (by decide)
    refine WPd.short (c2 := cc) (by_ := 1000000000) (r := r) rfl u3 ⟨by show _ < 72; decide, by show _ < 72; decide, by show _ < 72; decide⟩ (dg_ok' M) (by omega) (by decide) (by decide) (by rw [val_dg', hr]) fun o lo oko eo => ?_
    simp only [thenD]
    refine WPd.tms (fun u => u = 3 ∨ u = 4 ∨ u = 5) (by (repeat' (first | assumption | refine nrT_upd ?_ (by first | rfl | assumption) | exact nrT_no | refine nrH_none ?_ | refine nrH_upd ?_ (by first | rfl | assumption | (simp only [nrO, nrL_bytes]) ) | exact nrH_empty))) fun tm6 hnrT6 hT => ?_
    have w3 : tm6 3 = some (.flat (.slice (some ⟨g, 0, none⟩) o.length cc)) := by rw [lo]; exact (hT 3 (by simp)).trans u3
    have w4 : tm6 4 = some v4 := (hT 4 (by simp)).trans u4
    have w5 : tm6 5 = some (.flat (.int .u32 (r : Int))) := (hT 5 (by simp)).trans rfl
    clear hT u3 u4 hnrT5 tm5
    have evo : val o = q := by rw [eo, val_dg', hq]
    refine WPd.seq ?_
    refine WPd.cut (c2 := cc) rfl w3 ⟨by show _ < 72; decide, by show _ < 72; decide, by show _ < 72; decide, by show _ < 72; decide⟩ oko (by omega) (by omega) fun c4 hc4 => ?_
    rw [evo] at hc4 ⊢
    simp only [thenD]
    refine WPd.tms (fun u => u = 3 ∨ u = 4 ∨ u = 5) (by (repeat' (first | assumption | refine nrT_upd ?_ (by first | rfl | assumption) | exact nrT_no | refine nrH_none ?_ | refine nrH_upd ?_ (by first | rfl | assumption | (simp only [nrO, nrL_bytes]) ) | exact nrH_empty))) fun tm7 hnrT7 hT => ?_
    have x3 : tm7 3 = some (.flat (.slice (some ⟨g, 0, none⟩) (dg q).length c4)) := (hT 3 (by simp)).trans rfl
    have x4 : tm7 4 = some v4 := (hT 4 (by simp)).trans w4
    have x5 : tm7 5 = some (.flat (.int .u32 (r : Int))) := (hT 5 (by simp)).trans w5
    clear hT w3 w4 w5 hnrT6 tm6
    obtain ⟨Kq, hKq⟩ : ∃ Kq, Kq = (dg q).length := ⟨_, rfl⟩
    have hKq0 : Kq = 0 ↔ q = 0 := by
     rw [hKq]
     constructor
     ·intro h
      apply Decidable.byContradiction
      intro c
      rw [dg_pos c] at h; simp at h
     ·rintro rfl; rw [dg_zero]; rfl
    have hKq1 : Kq ≤ 1000 := by
     rw [hKq]
     refine Nat.le_trans (dg_len KM q ?_) (by omega)
     have h1 := val_lt (dg_ok' M)
     rw [val_dg', ← hKM] at h1
     rw [hq]
     exact Nat.lt_of_le_of_lt (Nat.div_le_self _ _) h1
    have hsplit : out ++ (tailL q r 9 ++ decL q) = decL N := by rw [hq, hr, ← decL_tail 9 M]; exact hout
    rw [← hKq] at x3
    repeat (first
     | refine WPd.seq ?_ | refine WPd.block ?_
     | (refine WPd.lift (Fz := False) ?_; (first | refine wp_skipQ ?_ | refine wp_labelQ ?_ | refine wp_exitQ ?_ | refine wp_retQ ?_); (refine ⟨⟨NR.of ?_ ?_, fun v e => by cases e⟩, ?_⟩; (repeat' (first | assumption | refine nrT_upd ?_ (by first | rfl | assumption) | exact nrT_no | refine nrH_none ?_ | refine nrH_upd ?_ (by first | rfl | assumption | (simp only [nrO, nrL_bytes]) ) | exact nrH_empty)); (repeat' (first | assumption | refine nrT_upd ?_ (by first | rfl | assumption) | exact nrT_no | refine nrH_none ?_ | refine nrH_upd ?_ (by first | rfl | assumption | (simp only [nrO, nrL_bytes]) ) | exact nrH_empty)); (try simp only [thenD, blkD, Nat.reduceEqDiff, reduceIte])))
     | ((fail_if_success refine WPd.lift (Fz := False) (wp_reg (id := 9) B ?_)); refine WPd.lift (Fz := False) ?_; (first | refine wp_dreg B (id := 16) [0, 0, 0, 0, 0, 0, 48, 112, 0, 0, 768, 1792, 4083, 8179, 16383, 32767] (by kernel_rfl) ?_ | refine wp_reg B ?_); simp (disch := omega) only [kW, kG, Nat.reduceEqDiff, reduceIte, Nat.reduceLT, Nat.reduceLeDiff, Nat.reduceAdd, Nat.reduceSub, Nat.reduceMul, Nat.reducePow, Nat.reduceDiv, Nat.reduceMod, evIndexAddr, TD.agg, evFieldAddr, ty3, ty5, ty9, ty50, ty52, ty86, ty88, fn50, fn49, x3, x4, x5]; (refine ⟨⟨NR.of ?_ ?_, fun v e => by cases e⟩, ?_⟩; (repeat' (first | assumption | refine nrT_upd ?_ (by first | rfl | assumption) | exact nrT_no | refine nrH_none ?_ | refine nrH_upd ?_ (by first | rfl | assumption | (simp only [nrO, nrL_bytes]) ) | exact nrH_empty)); (repeat' (first | assumption | refine nrT_upd ?_ (by first | rfl | assumption) | exact nrT_no | refine nrH_none ?_ | refine nrH_upd ?_ (by first | rfl | assumption | (simp only [nrO, nrL_bytes]) ) | exact nrH_empty)); (try simp only [thenD, blkD, Nat.reduceEqDiff, reduceIte])))
     | refine WPd.condT rfl ?_ | refine WPd.condF rfl ?_)
    obtain ⟨nn, rfl⟩ : ∃ nn, n = nn + 1 := ⟨n - 1, by
     have : n ≠ 0 := by rintro rfl; simp at hM; omega
     omega⟩
    have hqn : q < (10 ^ 9) ^ nn := by
     rw [Nat.pow_succ] at hM
     rw [hq]
     exact Nat.div_lt_of_lt_mul (by rw [Nat.mul_comm]; exact hM)
    refine WPd.lift (Fz := False) ?_
    refine wp_loopQ (fun k z => ∃ (tm : Nat → Option AV) (h6 : Hp) (v6 : AV) (out6 : List Nat) (r6 : Nat), z = ⟨tm, 72, h6, []⟩ ∧ k ≤ 9 ∧ tm 3 = some (.flat (.slice (some ⟨g, 0, none⟩) Kq c4)) ∧ tm 4 = some v6 ∧ tm 5 = some (.flat (.int .u32 (r6 : Int))) ∧ tm 6 = some (.flat (.int .i64 ((9 - k : Nat) : Int))) ∧ r6 < 10 ^ k ∧
     SlB h6 v6 (out6.map bc) ∧ out6 ++ (tailL q r6 k ++ decL q) = decL N ∧ nrT tm ∧ nrH h6.m ∧ (∀ i, h6.next ≤ i → h6.m i = none)) 9 ?_ ?_
    ·exact ⟨_, hh, v4, out, r, rfl, Nat.le_refl _, x3, x4, x5, rfl, hr9, hv4, hsplit, by (repeat' (first | assumption | refine nrT_upd ?_ (by first | rfl | assumption) | exact nrT_no | refine nrH_none ?_ | refine nrH_upd ?_ (by first | rfl | assumption | (simp only [nrO, nrL_bytes]) ) | exact nrH_empty)), hnrH, hborn⟩
    ·rintro k z ⟨tm, h6, v6, out6, r6, rfl, hk, t3, t4, t5, t6, hr6, hv6, hout6, hnrT, hnrH6, hborn6⟩
     by_cases hk0 : k = 0
     ·subst hk0
      have ht := tail_end (q := q) hr6 (.inl rfl)
      repeat (first
       | refine wp_seqQ ?_ | refine wp_blockQ ?_ | refine wp_scopeQ ?_
       | ((first | refine wp_skipQ ?_ | refine wp_labelQ ?_ | refine wp_exitQ ?_ | refine wp_retQ ?_); simp only [kQ, Nat.reduceEqDiff, reduceIte])
       | ((first | refine wp_dreg B (id := 16) [0, 0, 0, 0, 0, 0, 48, 112, 0, 0, 768, 1792, 4083, 8179, 16383, 32767] (by kernel_rfl) ?_ | refine wp_reg B ?_); simp (disch := omega) only [kW, kG, Nat.reduceEqDiff, reduceIte, Nat.reduceLT, Nat.reduceLeDiff, Nat.reduceAdd, Nat.reduceSub, Nat.reduceMul, Nat.reducePow, Nat.reduceDiv, Nat.reduceMod, evIndexAddr, TD.agg, evFieldAddr, ty3, ty5, ty9, ty50, ty52, ty86, ty88, fn50, fn49, t3, t4, t5, t6])
       | refine wp_condT rfl ?_ | refine wp_condF rfl ?_)
      refine ⟨⟨NR.of (by (repeat' (first | assumption | refine nrT_upd ?_ (by first | rfl | assumption) | exact nrT_no | refine nrH_none ?_ | refine nrH_upd ?_ (by first | rfl | assumption | (simp only [nrO, nrL_bytes]) ) | exact nrH_empty))) hnrH6, fun v e => by cases e⟩, ?_⟩
      exact ⟨nn, rfl, q, _, h6, v6, out6, c4, cq, rfl, rfl, hqn, by rw [← hKq]; exact t3, by omega, by omega, t4, hv6, by rw [ht, List.nil_append] at hout6; exact hout6, by (repeat' (first | assumption | refine nrT_upd ?_ (by first | rfl | assumption) | exact nrT_no | refine nrH_none ?_ | refine nrH_upd ?_ (by first | rfl | assumption | (simp only [nrO, nrL_bytes]) ) | exact nrH_empty)), hnrH6, hborn6⟩
     ·obtain ⟨j, rfl⟩ : ∃ j, k = j + 1 := ⟨k - 1, by omega⟩
      have e9 : 9 - (j + 1) < 9 := by omega
      by_cases hz : q = 0 ∧ r6 = 0
      ·have ht := tail_end hr6 (.inr hz)
       have hKz : Kq = 0 := hKq0.2 hz.1
       have hrz := hz.2
       repeat (first
        | refine wp_seqQ ?_ | refine wp_blockQ ?_ | refine wp_scopeQ ?_
        | ((first | refine wp_skipQ ?_ | refine wp_labelQ ?_ | refine wp_exitQ ?_ | refine wp_retQ ?_); simp only [kQ, Nat.reduceEqDiff, reduceIte])
        | ((first | refine wp_dreg B (id := 16) [0, 0, 0, 0, 0, 0, 48, 112, 0, 0, 768, 1792, 4083, 8179, 16383, 32767] (by kernel_rfl) ?_ | refine wp_reg B ?_); simp (disch := omega) only [kW, kG, Nat.reduceEqDiff, reduceIte, Nat.reduceLT, Nat.reduceLeDiff, Nat.reduceAdd, Nat.reduceSub, Nat.reduceMul, Nat.reducePow, Nat.reduceDiv, Nat.reduceMod, evIndexAddr, TD.agg, evFieldAddr, ty3, ty5, ty9, ty50, ty52, ty86, ty88, fn50, fn49, t3, t4, t5, t6])
        | refine wp_condT rfl ?_ | refine wp_condF rfl ?_)
       refine ⟨⟨NR.of (by (repeat' (first | assumption | refine nrT_upd ?_ (by first | rfl | assumption) | exact nrT_no | refine nrH_none ?_ | refine nrH_upd ?_ (by first | rfl | assumption | (simp only [nrO, nrL_bytes]) ) | exact nrH_empty))) hnrH6, fun v e => by cases e⟩, ?_⟩
       exact ⟨nn, rfl, q, _, h6, v6, out6, c4, cq, rfl, rfl, hqn, by rw [← hKq]; exact t3, by omega, by omega, t4, hv6, by rw [ht, List.nil_append] at hout6; exact hout6, by (repeat' (first | assumption | refine nrT_upd ?_ (by first | rfl | assumption) | exact nrT_no | refine nrH_none ?_ | refine nrH_upd ?_ (by first | rfl | assumption | (simp only [nrO, nrL_bytes]) ) | exact nrH_empty)), hnrH6, hborn6⟩
      ·have hstep := tail_step (q := q) (r := r6) (k := j) (by omega)
       rw [hstep] at hout6
       have hout7 : (out6 ++ [r6 % 10]) ++ (tailL q (r6 / 10) j ++ decL q) = decL N := by rw [List.append_assoc]; exact hout6
       have hr7 : r6 / 10 < 10 ^ j := by rw [Nat.pow_succ] at hr6; omega
       have hr32 : r6 < 4294967296 := Nat.lt_of_lt_of_le hr6 (Nat.le_trans (Nat.pow_le_pow_right (by decide) hk) (by decide))
       have hw0 : (r6 : Int).tmod 10 = ((r6 % 10 : Nat) : Int) := by rw [Int.tmod_eq_emod_of_nonneg (by omega)]; exact (Int.natCast_emod _ _).symm
       have hw1 : fwrap .u32 (48 + ((r6 % 10 : Nat) : Int)) = ((48 + r6 % 10 : Nat) : Int) := by
        have e : (48 : Int) + ((r6 % 10 : Nat) : Int) = ((48 + r6 % 10 : Nat) : Int) := by omega
        rw [e]; exact fwrap_nat32 (by omega)
       have hw2 : fwrap .u8 ((48 + r6 % 10 : Nat) : Int) = ((48 + r6 % 10 : Nat) : Int) := fwrap_nat8 (by omega)
       have hw3 : fwrap .u32 ((r6 : Int).tdiv 10) = ((r6 / 10 : Nat) : Int) := by
        rw [Int.tdiv_eq_ediv_of_nonneg (by omega), show (r6 : Int) / 10 = ((r6 / 10 : Nat) : Int) from (Int.natCast_ediv _ _).symm]
        exact fwrap_nat32 (by omega)
       have e6 : ((9 - j : Nat) : Int) = ((9 - (j + 1) : Nat) : Int) + 1 := by omega
       have hol : out6.length ≤ 10000 := by
        have := congrArg List.length hout6
        rw [List.length_append] at this
        omega
       have hll : (out6.map bc).length = out6.length := by rw [List.length_map]
       have hcl : allClean (out6.map bc) = true := clean_u8 out6
       by_cases hq0 : q = 0
       ·have hKz : Kq = 0 := hKq0.2 hq0
        have hr0 : 0 < r6 := by omega
        rcases hv6 with ⟨e0, rfl⟩ | ⟨Bo, rfl, hBo⟩
        ·repeat (first
           | refine wp_seqQ ?_ | refine wp_blockQ ?_ | refine wp_scopeQ ?_
           | ((first | refine wp_skipQ ?_ | refine wp_labelQ ?_ | refine wp_exitQ ?_ | refine wp_retQ ?_); simp only [kQ, Nat.reduceEqDiff, reduceIte])
           | ((first | refine wp_dreg B (id := 16) [0, 0, 0, 0, 0, 0, 48, 112, 0, 0, 768, 1792, 4083, 8179, 16383, 32767] (by kernel_rfl) ?_ | refine wp_reg B ?_); simp (disch := omega) only [kW, kG, Nat.reduceEqDiff, reduceIte, Nat.reduceLT, Nat.reduceLeDiff, Nat.reduceAdd, Nat.reduceSub, Nat.reduceMul, Nat.reducePow, Nat.reduceDiv, Nat.reduceMod, evIndexAddr, TD.agg, evFieldAddr, ty3, ty5, ty9, ty50, ty52, ty86, ty88, fn50, fn49, t3, t4, t5, t6, cleanU8, hw0, hw1, hw2, hw3])
           | refine wp_condT rfl ?_ | refine wp_condF rfl ?_)
         refine ⟨j, by omega, _, _, .slice (h6.next + 1) 0 1 (.toEnd 1), out6 ++ [r6 % 10], r6 / 10, rfl, by omega, t3, rfl, rfl, by rw [e6]; rfl, hr7, .inr ⟨h6.next + 1, ?_, ?_⟩, hout7, by (repeat' (first | assumption | refine nrT_upd ?_ (by first | rfl | assumption) | exact nrT_no | refine nrH_none ?_ | refine nrH_upd ?_ (by first | rfl | assumption | (simp only [nrO, nrL_bytes]) ) | exact nrH_empty)), nrH_upd (nrH_upd hnrH6 rfl) rfl, fun a ha => ?_⟩
         ·rw [List.map_append, e0]; rfl
         ·dsimp only; rw [upd_eq, List.map_append, e0]; rfl
         ·dsimp only at ha ⊢; rw [upd_ne _ _ (by omega), upd_ne _ _ (by omega)]; exact hborn6 a (by omega)
        ·rw [hll] at t4
         have lBo := lt_nx hborn6 hBo
         repeat (first
          | refine wp_seqQ ?_ | refine wp_blockQ ?_ | refine wp_scopeQ ?_
          | ((first | refine wp_skipQ ?_ | refine wp_labelQ ?_ | refine wp_exitQ ?_ | refine wp_retQ ?_); simp only [kQ, Nat.reduceEqDiff, reduceIte])
          | ((first | refine wp_dreg B (id := 16) [0, 0, 0, 0, 0, 0, 48, 112, 0, 0, 768, 1792, 4083, 8179, 16383, 32767] (by kernel_rfl) ?_ | refine wp_reg B ?_); simp (disch := omega) only [kW, kG, Nat.reduceEqDiff, reduceIte, Nat.reduceLT, Nat.reduceLeDiff, Nat.reduceAdd, Nat.reduceSub, Nat.reduceMul, Nat.reducePow, Nat.reduceDiv, Nat.reduceMod, evIndexAddr, TD.agg, evFieldAddr, ty3, ty5, ty9, ty50, ty52, ty86, ty88, fn50, fn49, t3, t4, t5, t6, cleanU8, hw0, hw1, hw2, hw3, hBo, hll, hcl])
          | refine wp_condT rfl ?_ | refine wp_condF rfl ?_)
         refine ⟨j, by omega, _, _, .slice (h6.next + 1) 0 (out6.length + 1) (.toEnd 1), out6 ++ [r6 % 10], r6 / 10, rfl, by omega, t3, rfl, rfl, by rw [e6]; rfl, hr7, .inr ⟨h6.next + 1, ?_, ?_⟩, hout7, by (repeat' (first | assumption | refine nrT_upd ?_ (by first | rfl | assumption) | exact nrT_no | refine nrH_none ?_ | refine nrH_upd ?_ (by first | rfl | assumption | (simp only [nrO, nrL_bytes]) ) | exact nrH_empty)), nrH_upd (nrH_none (nrH_upd hnrH6 rfl)) ?_, fun a ha => ?_⟩
         ·rw [List.map_append, List.length_append, hll]; rfl
         ·dsimp only; rw [upd_eq, List.map_append]; rfl
         ·have := nrL_bytes (out6 ++ [r6 % 10])
          rw [List.map_append] at this
          exact this
         ·dsimp only at ha ⊢; rw [upd_ne _ _ (by omega), upd_ne _ _ (by omega), upd_ne _ _ (by omega)]; exact hborn6 a (by omega)
       ·have hKz : 0 < Kq := by omega
        rcases hv6 with ⟨e0, rfl⟩ | ⟨Bo, rfl, hBo⟩
        ·repeat (first
           | refine wp_seqQ ?_ | refine wp_blockQ ?_ | refine wp_scopeQ ?_
           | ((first | refine wp_skipQ ?_ | refine wp_labelQ ?_ | refine wp_exitQ ?_ | refine wp_retQ ?_); simp only [kQ, Nat.reduceEqDiff, reduceIte])
           | ((first | refine wp_dreg B (id := 16) [0, 0, 0, 0, 0, 0, 48, 112, 0, 0, 768, 1792, 4083, 8179, 16383, 32767] (by kernel_rfl) ?_ | refine wp_reg B ?_); simp (disch := omega) only [kW, kG, Nat.reduceEqDiff, reduceIte, Nat.reduceLT, Nat.reduceLeDiff, Nat.reduceAdd, Nat.reduceSub, Nat.reduceMul, Nat.reducePow, Nat.reduceDiv, Nat.reduceMod, evIndexAddr, TD.agg, evFieldAddr, ty3, ty5, ty9, ty50, ty52, ty86, ty88, fn50, fn49, t3, t4, t5, t6, cleanU8, hw0, hw1, hw2, hw3])
           | refine wp_condT rfl ?_ | refine wp_condF rfl ?_)
         refine ⟨j, by omega, _, _, .slice (h6.next + 1) 0 1 (.toEnd 1), out6 ++ [r6 % 10], r6 / 10, rfl, by omega, t3, rfl, rfl, by rw [e6]; rfl, hr7, .inr ⟨h6.next + 1, ?_, ?_⟩, hout7, by (repeat' (first | assumption | refine nrT_upd ?_ (by first | rfl | assumption) | exact nrT_no | refine nrH_none ?_ | refine nrH_upd ?_ (by first | rfl | assumption | (simp only [nrO, nrL_bytes]) ) | exact nrH_empty)), nrH_upd (nrH_upd hnrH6 rfl) rfl, fun a ha => ?_⟩
         ·rw [List.map_append, e0]; rfl
         ·dsimp only; rw [upd_eq, List.map_append, e0]; rfl
         ·dsimp only at ha ⊢; rw [upd_ne _ _ (by omega), upd_ne _ _ (by omega)]; exact hborn6 a (by omega)
        ·rw [hll] at t4
         have lBo := lt_nx hborn6 hBo
         repeat (first
          | refine wp_seqQ ?_ | refine wp_blockQ ?_ | refine wp_scopeQ ?_
          | ((first | refine wp_skipQ ?_ | refine wp_labelQ ?_ | refine wp_exitQ ?_ | refine wp_retQ ?_); simp only [kQ, Nat.reduceEqDiff, reduceIte])
          | ((first | refine wp_dreg B (id := 16) [0, 0, 0, 0, 0, 0, 48, 112, 0, 0, 768, 1792, 4083, 8179, 16383, 32767] (by kernel_rfl) ?_ | refine wp_reg B ?_); simp (disch := omega) only [kW, kG, Nat.reduceEqDiff, reduceIte, Nat.reduceLT, Nat.reduceLeDiff, Nat.reduceAdd, Nat.reduceSub, Nat.reduceMul, Nat.reducePow, Nat.reduceDiv, Nat.reduceMod, evIndexAddr, TD.agg, evFieldAddr, ty3, ty5, ty9, ty50, ty52, ty86, ty88, fn50, fn49, t3, t4, t5, t6, cleanU8, hw0, hw1, hw2, hw3, hBo, hll, hcl])
          | refine wp_condT rfl ?_ | refine wp_condF rfl ?_)
         refine ⟨j, by omega, _, _, .slice (h6.next + 1) 0 (out6.length + 1) (.toEnd 1), out6 ++ [r6 % 10], r6 / 10, rfl, by omega, t3, rfl, rfl, by rw [e6]; rfl, hr7, .inr ⟨h6.next + 1, ?_, ?_⟩, hout7, by (repeat' (first | assumption | refine nrT_upd ?_ (by first | rfl | assumption) | exact nrT_no | refine nrH_none ?_ | refine nrH_upd ?_ (by first | rfl | assumption | (simp only [nrO, nrL_bytes]) ) | exact nrH_empty)), nrH_upd (nrH_none (nrH_upd hnrH6 rfl)) ?_, fun a ha => ?_⟩
         ·rw [List.map_append, List.length_append, hll]; rfl
         ·dsimp only; rw [upd_eq, List.map_append]; rfl
         ·have := nrL_bytes (out6 ++ [r6 % 10])
          rw [List.map_append] at this
          exact this
         ·dsimp only at ha ⊢; rw [upd_ne _ _ (by omega), upd_ne _ _ (by omega), upd_ne _ _ (by omega)]; exact hborn6 a (by omega)
end Go.Proofs.Ytkffcclalncgdaa.Iv
end
section
set_option maxHeartbeats 4000000
set_option linter.unusedVariables false
set_option linter.unusedSimpArgs false
set_option maxRecDepth 10000
namespace Go.Proofs.Ytkffcclalncgdaa.Iv
open Go Go.Iv Go.RowKit Go.Proofs.Ytkffcclalncgdaa.Nv Dg
theorem nText_sem (n : Nat) (hl : bl n ≤ 30000) (h : Hp) : SemCall Try.prog 30 [.agg [nav n]] h (.ret (.flat (.string (decS n)))) h := by
 refine semcall_of fun D ρ w args' hr ha => ?_
 obtain ⟨V, rfl, h1⟩ := relL1 ha
 obtain ⟨v, rfl, hv⟩ := an_open hr (by omega) h1
 have := Dg.len_of_bl (n := n) (k := 1000) (by omega)
 refine (nText_calls n v w hv this).mono ?_
 rintro e w' ⟨rfl, hb⟩
 exact ⟨_, rfl, hb, fun ρ1 hr1 hle => ⟨ρ1, Step.refl hr1, rel_flat _⟩⟩
noncomputable def EtOf : Entry Try.prog := ⟨29, fun args h e h' => h' = h ∧ ∃ (n : Nat), args = [.flat (.int .u64 (n : Int))] ∧ (n < 18446744073709551616) ∧ e = .ret (.agg [nav n]), by
 rintro args h e h' ⟨rfl, n, rfl, h1, rfl⟩
 exact ⟨nOf_sem n h1 _, Hp.Le.refl _⟩⟩
theorem EtOf_ans (n : Nat) (h : Hp) (h1 : n < 18446744073709551616) : EtOf.ans [.flat (.int .u64 (n : Int))] h = some (.ret (.agg [nav n]), h) :=
 Entry.one ⟨rfl, n, rfl, h1, rfl⟩ fun e h' ⟨hh, n', ha, _, he⟩ => by simp only [kI, nav_eq] at ha; subst ha; exact ⟨he, hh⟩
noncomputable def EtMul : Entry Try.prog := ⟨34, fun args h e h' => h' = h ∧ ∃ (a b : Nat), args = [.agg [nav a], .agg [nav b]] ∧ (bl a + bl b ≤ 4096) ∧ e = .ret (.tuple [.agg [nav (a * b)], .flat (.int .i64 0)]), by
 rintro args h e h' ⟨rfl, a, b, rfl, h1, rfl⟩
 exact ⟨nMul_sem a b h1 _, Hp.Le.refl _⟩⟩
theorem EtMul_ans (a b : Nat) (h : Hp) (h1 : bl a + bl b ≤ 4096) : EtMul.ans [.agg [nav a], .agg [nav b]] h = some (.ret (.tuple [.agg [nav (a * b)], .flat (.int .i64 0)]), h) :=
 Entry.one ⟨rfl, a, b, rfl, h1, rfl⟩ fun e h' ⟨hh, a', b', ha, _, he⟩ => by simp only [kI, nav_eq] at ha; obtain ⟨rfl, rfl⟩ := ha; exact ⟨he, hh⟩
noncomputable def EtText : Entry Try.prog := ⟨30, fun args h e h' => h' = h ∧ ∃ (n : Nat), args = [.agg [nav n]] ∧ (bl n ≤ 30000) ∧ e = .ret (.flat (.string (decS n))), by
 rintro args h e h' ⟨rfl, n, rfl, h1, rfl⟩
 exact ⟨nText_sem n h1 _, Hp.Le.refl _⟩⟩
theorem EtText_ans (n : Nat) (h : Hp) (h1 : bl n ≤ 30000) : EtText.ans [.agg [nav n]] h = some (.ret (.flat (.string (decS n))), h) :=
 Entry.one ⟨rfl, n, rfl, h1, rfl⟩ fun e h' ⟨hh, n', ha, _, he⟩ => by simp only [kI, nav_eq] at ha; subst ha; exact ⟨he, hh⟩
end Go.Proofs.Ytkffcclalncgdaa.Iv
end
section
set_option maxHeartbeats 8000000
set_option linter.unusedVariables false
set_option linter.unusedSimpArgs false
set_option maxRecDepth 10000
namespace Go.Proofs.Ytkffcclalncgdaa.Iv
open Go Go.Iv Go.RowKit Pg Ch
def prodTo (f : Nat → Nat) : Nat → Nat
 | 0 => 1
 | i + 1 => prodTo f i * f i
theorem prodTo_le (f : Nat → Nat) (b : Nat) (hf : ∀ i, f i ≤ 2 ^ b) : ∀ i, prodTo f i ≤ 2 ^ (b * i)
 | 0 => by simp [prodTo]
 | i + 1 => by
  rw [prodTo, Nat.mul_succ, Nat.pow_add]
  exact Nat.mul_le_mul (prodTo_le f b hf i) (hf i)
theorem orbK_le {n : Nat} (β : Nat → Nat) (gens : List (Pm n)) (k : Nat) : (orbK β gens k).length ≤ n := by
 have := List.length_filter_le (fun x => @decide (Orb β gens k x) (Classical.propDecidable _)) (List.range n)
 rw [List.length_range] at this
 exact this
noncomputable def ordK {n : Nat} (β : Nat → Nat) (gens : List (Pm n)) : Nat := prodTo (fun k => (orbK β gens k).length) n
theorem bl_pt {n : Nat} (hn : n ≤ 64) (β : Nat → Nat) (gens : List (Pm n)) (i : Nat) (hi : i ≤ 64) : Dg.bl (prodTo (fun k => (orbK β gens k).length) i) ≤ 400 := by
 have h1 := prodTo_le (fun k => (orbK β gens k).length) 6 (fun k => Nat.le_trans (orbK_le β gens k) hn) i
 refine Dg.bl_le.2 (Nat.lt_of_le_of_lt h1 ?_)
 obtain ⟨E, hE⟩ : ∃ E, E = 400 := ⟨_, rfl⟩
 rw [← hE]
 exact Nat.pow_lt_pow_right (by omega) (by omega)
theorem fwrap_u64 {n : Nat} (h : n < 18446744073709551616) : fwrap .u64 (n : Int) = (n : Int) := by
 show Int.ofNat (n % 18446744073709551616) = _
 rw [Nat.mod_eq_of_lt h]; rfl
theorem Order_sem {n : Nat} (hn : n ≤ 64) (hn0 : 0 < n) {y : Lay} {β : Nat → Nat} {G : AV} {gb : Nat → Option Nat} {gens : List (Pm n)} {st : St n} {h : Hp} (s : Stands y β G gb st h) (o : Of β gens st) :
    ∃ e h', SemCall Try.prog 19 [.ptr y.C 0] h e h' ∧ Hp.Le h h' ∧ e = .ret (.flat (.string (decS (ordK β gens)))) ∧ (∀ i, i < h.next → h'.m i = h.m i) ∧ (∀ i, h'.next ≤ i → h'.m i = none) ∧ h.next ≤ h'.next := by
 refine sem_heap tables.ok Try.func19 rfl rfl rfl rfl ?_
 have B : Base Try.prog tab _ := tabL_base [EtOf, EtMul, EtText] tables.ok mixed
 generalize hL : tabL [EtOf, EtMul, EtText] = call at B
 have c_EtOf : ∀ a h, call 29 a h = EtOf.ans a h := fun _ _ => hL ▸ rfl
 have c_EtMul : ∀ a h, call 34 a h = EtMul.ans a h := fun _ _ => hL ▸ rfl
 have c_EtText : ∀ a h, call 30 a h = EtText.ans a h := fun _ _ => hL ▸ rfl
 clear hL
 have k0 : ∀ h, EtOf.ans [.flat (.int .u64 1)] h = some (.ret (.agg [nav 1]), h) := fun h => EtOf_ans 1 h (by decide)
 have hC := s.chain' hn0
 have hK := s.links hn0
 have lC := s.ltC
 have lK := s.ltK hn0
 unfold Try.f19 bodyOf entry; simp only [Option.getD_some, List.length_cons, List.length_nil, Nat.reduceAdd, Nat.reduceSub]
 repeat (first
  | refine wp_seqQ ?_ | refine wp_blockQ ?_ | refine wp_scopeQ ?_
  | ((first | refine wp_skipQ ?_ | refine wp_labelQ ?_ | refine wp_exitQ ?_ | refine wp_retQ ?_); simp only [kQ, Nat.reduceEqDiff, reduceIte])
  | ((first | refine wp_dreg B (id := 7) [0, 0, 2, 6, 14, 30, 62, 126, 255, 511, 1023, 1023, 2047] (by kernel_rfl) ?_ | refine wp_reg B ?_); simp (disch := omega) only [kW, kG, Nat.reduceEqDiff, reduceIte, Nat.reduceLT, Nat.reduceLeDiff, Nat.reduceAdd, Nat.reduceSub, Nat.reduceMul, Nat.reducePow, Nat.reduceDiv, Nat.reduceMod, evIndexAddr, TD.agg, evFieldAddr, ty3, ty22, ty23, ty27, ty50, ty52, ty54, ty65, ty67, ty68, ty70, ty73, ty86, fn29, fn34, fn30, c_EtOf, EtOf_ans, c_EtMul, EtMul_ans, c_EtText, EtText_ans, hC, k0])
  | refine wp_condT rfl ?_ | refine wp_condF rfl ?_)
 refine wp_loopQ (fun f' z => ∃ (i : Nat) (tm : Nat → Option AV) (hh : Hp), z = ⟨tm, 33, hh, []⟩ ∧ f' = n - i ∧ i ≤ n ∧ tm 3 = some (.ptr h.next 0) ∧ tm 12 = some (.slice y.K 0 n (.toEnd 1)) ∧ tm 13 = some (.flat (.int .i64 (n : Int))) ∧ tm 14 = some (.flat (.int .i64 (i : Int))) ∧
  hh.m h.next = some (.cells [nav (prodTo (fun k => (orbK β gens k).length) i)] 52 false) ∧ (∀ j, j < h.next → hh.m j = h.m j) ∧ (∀ j, hh.next ≤ j → hh.m j = none) ∧ h.next < hh.next) n ?_ ?_
 ·refine ⟨0, _, _, rfl, rfl, Nat.zero_le _, rfl, rfl, rfl, rfl, ?_, fun j hj => ?_, fun j hj => ?_, ?_⟩
  ·dsimp only; rw [upd_eq]; rfl
  ·dsimp only; rw [upd_ne _ _ (by omega), upd_ne _ _ (by omega)]
  ·dsimp only at hj ⊢; rw [upd_ne _ _ (by omega), upd_ne _ _ (by omega)]; exact s.born j (by omega)
  ·dsimp only; omega
 ·rintro f' z ⟨i, tm, hh, rfl, rfl, hi, t3, t12, t13, t14, hcell, hold, hborn, hnx⟩
  repeat (first
   | refine wp_seqQ ?_ | refine wp_blockQ ?_ | refine wp_scopeQ ?_
   | ((first | refine wp_skipQ ?_ | refine wp_labelQ ?_ | refine wp_exitQ ?_ | refine wp_retQ ?_); simp only [kQ, Nat.reduceEqDiff, reduceIte])
   | ((first | refine wp_dreg B (id := 7) [0, 0, 2, 6, 14, 30, 62, 126, 255, 511, 1023, 1023, 2047] (by kernel_rfl) ?_ | refine wp_reg B ?_); simp (disch := omega) only [kW, kG, Nat.reduceEqDiff, reduceIte, Nat.reduceLT, Nat.reduceLeDiff, Nat.reduceAdd, Nat.reduceSub, Nat.reduceMul, Nat.reducePow, Nat.reduceDiv, Nat.reduceMod, evIndexAddr, TD.agg, evFieldAddr, ty3, ty22, ty23, ty27, ty50, ty52, ty54, ty65, ty67, ty68, ty70, ty73, ty86, fn29, fn34, fn30, c_EtOf, EtOf_ans, c_EtMul, EtMul_ans, c_EtText, EtText_ans, t3, t12, t13, t14])
   | refine wp_condT rfl ?_ | refine wp_condF rfl ?_)
  refine wp_if rfl (fun ilt => ?_) (fun ige => ?_)
  ·have hin : i < n := by omega
   have hK1 := hK
   have hL1 := s.link i hin
   have hM1 := s.map i hin
   rw [← hold _ lK] at hK1
   rw [← hold _ (s.ltL hin)] at hL1
   rw [← hold _ (s.ltM hin)] at hM1
   have hKc : (List.map (fun k => AV.ptr (y.L k) 0) (List.range n))[i]? = some (.ptr (y.L i) 0) := by rw [List.getElem?_map, List.getElem?_range hin]; rfl
   obtain ⟨m, hm⟩ : ∃ m, m = (orbK β gens i).length := ⟨_, rfl⟩
   have hTl : (List.map ent (st.T i)).length = m := by rw [List.length_map, orbK_len o hin, hm]
   have hmn : m ≤ n := by rw [hm]; exact orbK_le β gens i
   have lL := s.ltL hin
   have lM := s.ltM hin
   obtain ⟨p, hp⟩ : ∃ p, p = prodTo (fun k => (orbK β gens k).length) i := ⟨_, rfl⟩
   have hpb : Dg.bl p ≤ 400 := by rw [hp]; exact bl_pt hn β gens i (by omega)
   have hmb : Dg.bl m ≤ 7 := Dg.bl_le.2 (by omega)
   rw [← hp] at hcell
   have hfw : fwrap .u64 (m : Int) = (m : Int) := fwrap_u64 (by omega)
   have k1 : ∀ h, EtOf.ans [.flat (.int .u64 (m : Int))] h = some (.ret (.agg [nav m]), h) := fun h => EtOf_ans m h (by omega)
   have k2 : ∀ h, EtMul.ans [.agg [nav p], .agg [nav m]] h = some (.ret (.tuple [.agg [nav (p * m)], .flat (.int .i64 0)]), h) := fun h => EtMul_ans p m h (by omega)
   have nC : h.next ≠ y.L i := by omega
   have nM : h.next ≠ y.M i := by omega
   repeat (first
    | refine wp_seqQ ?_ | refine wp_blockQ ?_ | refine wp_scopeQ ?_
    | ((first | refine wp_skipQ ?_ | refine wp_labelQ ?_ | refine wp_exitQ ?_ | refine wp_retQ ?_); simp only [kQ, Nat.reduceEqDiff, reduceIte])
    | ((first | refine wp_dreg B (id := 7) [0, 0, 2, 6, 14, 30, 62, 126, 255, 511, 1023, 1023, 2047] (by kernel_rfl) ?_ | refine wp_reg B ?_); simp (disch := omega) only [kW, kG, Nat.reduceEqDiff, reduceIte, Nat.reduceLT, Nat.reduceLeDiff, Nat.reduceAdd, Nat.reduceSub, Nat.reduceMul, Nat.reducePow, Nat.reduceDiv, Nat.reduceMod, evIndexAddr, TD.agg, evFieldAddr, ty3, ty22, ty23, ty27, ty50, ty52, ty54, ty65, ty67, ty68, ty70, ty73, ty86, fn29, fn34, fn30, c_EtOf, EtOf_ans, c_EtMul, EtMul_ans, c_EtText, EtText_ans, t3, t12, t13, t14, hK1, hKc, hL1, hM1, hTl, hcell, hfw, k1, k2, nav_one, nav_clean])
    | refine wp_condT rfl ?_ | refine wp_condF rfl ?_)
   refine ⟨_, ?_, i + 1, _, _, rfl, rfl, by omega, t3, t12, t13, rfl, ?_, fun j hj => ?_, fun j hj => ?_, ?_⟩
   ·omega
   ·dsimp only; rw [upd_eq, prodTo, ← hp, ← hm]
   ·dsimp only; rw [upd_ne _ _ (by omega)]; exact hold j hj
   ·dsimp only at hj ⊢; rw [upd_ne _ _ (by omega)]; exact hborn j (by omega)
   ·dsimp only; omega
  ·have e : n = i := by omega
   subst e
   have k3 : ∀ h, EtText.ans [.agg [nav (ordK β gens)]] h = some (.ret (.flat (.string (decS (ordK β gens)))), h) := fun h => EtText_ans _ h (by have := bl_pt hn β gens n (by omega); unfold ordK; omega)
   have hc : hh.m h.next = some (.cells [nav (ordK β gens)] 52 false) := hcell
   repeat (first
    | refine wp_seqQ ?_ | refine wp_blockQ ?_ | refine wp_scopeQ ?_
    | ((first | refine wp_skipQ ?_ | refine wp_labelQ ?_ | refine wp_exitQ ?_ | refine wp_retQ ?_); simp only [kQ, Nat.reduceEqDiff, reduceIte])
    | ((first | refine wp_dreg B (id := 7) [0, 0, 2, 6, 14, 30, 62, 126, 255, 511, 1023, 1023, 2047] (by kernel_rfl) ?_ | refine wp_reg B ?_); simp (disch := omega) only [kW, kG, Nat.reduceEqDiff, reduceIte, Nat.reduceLT, Nat.reduceLeDiff, Nat.reduceAdd, Nat.reduceSub, Nat.reduceMul, Nat.reducePow, Nat.reduceDiv, Nat.reduceMod, evIndexAddr, TD.agg, evFieldAddr, ty3, ty22, ty23, ty27, ty50, ty52, ty54, ty65, ty67, ty68, ty70, ty73, ty86, fn29, fn34, fn30, c_EtOf, EtOf_ans, c_EtMul, EtMul_ans, c_EtText, EtText_ans, t3, hc, k3])
    | refine wp_condT rfl ?_ | refine wp_condF rfl ?_)
   simp (disch := omega) only [kS, Nat.reduceEqDiff, reduceIte, Nat.reduceLT, Nat.reduceLeDiff, Nat.reduceAdd, Nat.reduceSub, Nat.reduceMul, Nat.reducePow, Nat.reduceDiv, Nat.reduceMod, evIndexAddr, TD.agg, evFieldAddr, ty3, ty22, ty23, ty27, ty50, ty52, ty54, ty65, ty67, ty68, ty70, ty73, ty86, fn29, fn34, fn30, c_EtOf, EtOf_ans, c_EtMul, EtMul_ans, c_EtText, EtText_ans]
   exact ⟨hold, hborn, by omega⟩
end Go.Proofs.Ytkffcclalncgdaa.Iv
end
