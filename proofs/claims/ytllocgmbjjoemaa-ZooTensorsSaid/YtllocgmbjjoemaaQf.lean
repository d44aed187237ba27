/- Natural numbers: how many bits a number has; whether it is not too long; walks. Natural numbers: which of two is the greater, by a walk. Natural numbers: the sum, by a walk. Natural numbers: the difference, by a walk. Natural numbers: the product, by a walk. Natural numbers: the product, if it is not too long, by a walk. Dividing by one digit. Plain Lean, no program. Two halves of 64 bits, put together. Natural numbers: division by one digit, in place, by a walk. Digits shifted up and down. Plain Lean, no program. Natural numbers: digits shifted up, by a walk. Natural numbers: digits shifted down, by a walk. Long division by digits. Plain Lean, no program. Natural numbers: LeadingZeros32, and a multiple taken away from a part of a row, in place, by a walk. Long division: the state between two digits. Plain Lean, no program. Natural numbers: long division, by a walk. Natural numbers: division, by a walk. Quotients, cofactors, what Gcd tells: plain Lean, no program. -/
import Derived.Test.YtllocgmbjjoemaaQd
import Derived.Test.YtllocgmbjjoemaaQb
import Derived.Test.YtllocgmbjjoemaaQe
import Derived.BigQuiet
import Derived.Deep.QuietTactic
import Derived.Deep.RegionWith
import Derived.Deep.DeepCutAuto
import Derived.RowKit
import Derived.Laws.BitsLemmas
import Derived.WalkKit
import Derived.Laws.Bits64
import Derived.Deep.CutBlock
import Derived.ArgAppend
section
set_option linter.unusedVariables false
set_option linter.unusedSimpArgs false
namespace Go.Proofs.Ytllocgmbjjoemaa.Nv
open Go Go.RowKit Dg
theorem len32_calls (x : Nat) (w : World) (h1 : x < 4294967296) : Calls Try.prog 56 #[.int .u32 (x : Int)] w fun e w' => e = .returned (.int .i64 (bl x : Int)) ∧ w' = w := by
 have h := len32_shelf (x : Int) w (by omega) (by omega)
 rw [Int.toNat_natCast, lib_bl x x (Nat.le_refl _) (by omega)] at h
 exact h
set_option maxRecDepth 100000 in
set_option maxHeartbeats 1600000 in
theorem bits_calls (v : Value) (n : Nat) (w : World) (hn : Num w v n) :
    Calls Try.prog 47 #[.agg #[v]] w fun e w' => e = .returned (.int .i64 (bl n : Int)) ∧ Below w.heap.size w w' := by
 obtain ⟨A, c, rfl, hc, hr⟩ := hn
 have HR := As.mk hr
 have len := hr.len
 have HB := As.mk (Below.refl w.heap.size w)
 clear hr
 by_cases h0 : (dg n).length = 0
 ·have e : n = 0 := dg_nil.1 (List.length_eq_zero_iff.1 h0)
  have E := As.mk e
  have b0 : (((dg n).length : Int) == 0) = true := by rw [h0]; rfl
  clear e
  go_enter Try.func47, Try.ntmps47
  go_wp2
  go_ret
  rw [E.out]
  exact ⟨rfl, HB.out.alloc (Nat.le_refl _) _⟩
 ·have b0 : (((dg n).length : Int) == 0) = false := beq_eq_false_iff_ne.mpr (by omega)
  obtain ⟨x, hx⟩ : ∃ x, x = (dg n)[(dg n).length - 1]'(by omega) := ⟨_, rfl⟩
  have xb : x < 4294967296 := by rw [hx]; exact dg_ok' n _ (List.getElem_mem _)
  have bd := bl_dg (n := n) (by omega)
  rw [← hx] at bd
  have HD := As.mk bd
  have b32 : bl x ≤ 32 := bl_le.2 xb
  obtain ⟨ad, hA, cx⟩ := (HR.out.below ((Below.refl _ w).alloc (Nat.le_refl _) (.cells #[.slice A (dg n).length c] 66))).get (j := (dg n).length - 1) (by omega)
  rw [← hx] at cx
  cases hA
  have cB := cell_of_one (heap_alloc_new w (.cells #[.slice (some ad) ((dg n).length : Nat) c] 66))
  clear hx bd
  go_enter Try.func47, Try.ntmps47
  have B9 := As.mk (HB.out.alloc (Nat.le_refl _) (.cells #[.slice (some ad) ((dg n).length : Nat) c] 66))
  go_wp2
  generalize w.alloc (.cells #[.slice (some ad) ((dg n).length : Nat) c] 66) = w9 at *
  go_quiet (first | (go_at_call 56; exact Calls.quiet_of_same (len32_calls x _ xb)))
  go_wp2
  go_ret
  have ec : 32 * (((dg n).length : Int) - 1) + (bl x : Int) = (bl n : Int) := by rw [HD.out]; omega
  rw [ec]
  exact ⟨rfl, drewN_below B9.out _⟩
theorem bits_rd (A : Option Addr) (c n : Nat) (w : World) (hc : (dg n).length ≤ c) (hr : Rd w A (dg n)) :
    Calls Try.prog 47 #[.agg #[.slice A (dg n).length c]] w fun e w' => e = .returned (.int .i64 (bl n : Int)) ∧ Below w.heap.size w w' := bits_calls _ n w ⟨A, c, rfl, hc, hr⟩
set_option maxRecDepth 100000 in
set_option maxHeartbeats 1600000 in
theorem fits_calls (v : Value) (n : Nat) (w : World) (hn : Num w v n) (hb : bl n ≤ 4096) :
    Calls Try.prog 58 #[.agg #[v]] w fun e w' => ∃ v', e = .returned (.tuple #[.agg #[v'], .int .i64 0]) ∧ Num w' v' n ∧ Below w.heap.size w w' := by
 have hn0 := As.mk hn
 obtain ⟨A, c, rfl, hc, hr⟩ := hn
 have HR := As.mk hr
 have len := hr.len
 have b := hb
 have HB := As.mk (Below.refl w.heap.size w)
 have N1 := As.mk ((hn0.out.below ((Below.refl _ w).alloc (Nat.le_refl _) (.cells #[.slice A ((dg n).length : Nat) c] 66))).below ((Below.refl _ _).alloc (Nat.le_refl _) (.cells #[.slice none 0 0] 66)))
 clear hr hb
 go_enter Try.func58, Try.ntmps58
 go_wp2_with (go_at_call 47; refine (bits_calls (.slice A ((dg n).length : Nat) c) n _ N1.out).mono ?_; rintro e w2 ⟨rfl, hb2⟩; have B2 := As.mk (bel2 hb2); have K1 := As.mk (blk2 hb2); have K2 := As.mk (blkB hb2); have N2 := As.mk (N1.out.below hb2); have c1 := cell_of_one K1.out; have c2 := cell_of_one K2.out; have f2 := free_of_one K2.out; clear hb2)
 refine bodyPost_ret (ret_nat2 rfl (w.heap.size + 1) (.slice A ((dg n).length : Nat) c) (.int .i64 0) rfl rfl (one_setCell K2.out)) rfl ?_
 exact ⟨_, rfl, ⟨A, c, rfl, hc, (HR.out.below (B2.out)).put K2.out (by simp) _⟩, B2.out.setCell (Nat.le_succ _) _⟩
end Go.Proofs.Ytllocgmbjjoemaa.Nv
end
section
set_option linter.unusedVariables false
set_option linter.unusedSimpArgs false
namespace Go.Proofs.Ytllocgmbjjoemaa.Nv
open Go Go.RowKit Dg
theorem cmp_of_lt {a b : Nat} (h : a < b) : cmp a b = -1 := if_pos h
theorem cmp_of_gt {a b : Nat} (h : b < a) : cmp a b = 1 := by unfold cmp; rw [if_neg (by omega), if_pos h]
theorem cmp_self (a : Nat) : cmp a a = 0 := by unfold cmp; rw [if_neg (by omega), if_neg (by omega)]
set_option maxRecDepth 100000 in
set_option maxHeartbeats 3200000 in
theorem cmp_calls (v u : Value) (a b : Nat) (w : World) (ha : Num w v a) (hb : Num w u b) :
    Calls Try.prog 60 #[.agg #[v], .agg #[u]] w fun e w' => e = .returned (.int .i64 (cmp a b)) ∧ Below w.heap.size w w' := by
 obtain ⟨A, c, rfl, hc, hr⟩ := ha
 obtain ⟨A', c', rfl, hc', hr'⟩ := hb
 have HB := As.mk (((Below.refl w.heap.size w).alloc (Nat.le_refl _) (.cells #[.slice A ((dg a).length : Nat) c] 66)).alloc (by simp) (.cells #[.slice A' ((dg b).length : Nat) c'] 66))
 have W1 : w.heap.size < (w.alloc (.cells #[.slice A ((dg a).length : Nat) c] 66)).heap.size := by simp
 have K1 := As.mk ((Below.heap_alloc _ (.cells #[.slice A' ((dg b).length : Nat) c'] 66) _ W1).trans (heap_alloc_new w (.cells #[.slice A ((dg a).length : Nat) c] 66)))
 have K2 := As.mk (heap_alloc2_new w (.cells #[.slice A ((dg a).length : Nat) c] 66) (.cells #[.slice A' ((dg b).length : Nat) c'] 66))
 have R1 := As.mk (hr.below HB.out)
 have R2 := As.mk (hr'.below HB.out)
 have la := hr.len
 have lb := hr'.len
 clear hr hr' W1
 by_cases hl : (dg a).length = (dg b).length
 ·have b0 : (((dg a).length : Int) != ((dg b).length : Int)) = false := by rw [hl]; simp
  have HL := As.mk hl
  clear hl
  go_enter Try.func60, Try.ntmps60
  go_wp2
  go_loopg [5] (dg a).length (fun gk v5 wr => ∃ (j : Nat), v5 = .int .i64 ((j : Int) - 1) ∧ As (j ≤ gk ∧ j ≤ (dg a).length ∧ (dg a).drop j = (dg b).drop j) ∧ As (wr.heap[w.heap.size]? = some (.cells #[.slice A ((dg a).length : Nat) c] 66 (0, 0))) ∧
   As (wr.heap[w.heap.size + 1]? = some (.cells #[.slice A' ((dg b).length : Nat) c'] 66 (0, 0))) ∧ As (Rd wr A (dg a)) ∧ As (Rd wr A' (dg b)) ∧ As (Below w.heap.size w wr))
  case atStart => exact ⟨(dg a).length, rfl, ⟨Nat.le_refl _, Nat.le_refl _, by rw [List.drop_length, HL.out, List.drop_length]⟩, K1, K2, R1, R2, HB⟩
  case round =>
   clear K1 K2 R1 R2 HB
   obtain ⟨j, rfl, J, K1, K2, R1, R2, B⟩ := hrel
   obtain ⟨jg, jl, _⟩ := J.out
   have c1 := cell_of_one K1.out
   have c2 := cell_of_one K2.out
   by_cases j0 : j = 0
   ·have E : As (a = b) := ⟨by
      have := J.out.2.2
      rw [j0, List.drop_zero, List.drop_zero] at this
      rw [← val_dg' a, this, val_dg']⟩
    subst j0
    go_wp2
    go_ret
    rw [E.out, cmp_self]
    exact ⟨rfl, B.out⟩
   ·have hl := HL.out
    have jb : j - 1 < (dg b).length := by omega
    have ja : j - 1 < (dg a).length := by omega
    have jb' : (j : Int) - 1 < ((dg b).length : Int) := by omega
    clear hl
    obtain ⟨x, hx⟩ : ∃ x, x = (dg a)[j - 1] := ⟨_, rfl⟩
    obtain ⟨y, hy⟩ : ∃ y, y = (dg b)[j - 1] := ⟨_, rfl⟩
    obtain ⟨ad, hA, cx⟩ := R1.out.get ja
    obtain ⟨ad', hA', cy⟩ := R2.out.get jb
    rw [← hx] at cx
    rw [← hy] at cy
    cases hA
    cases hA'
    have HX := As.mk hx
    have HY := As.mk hy
    clear hx hy
    have dr : As ((dg a).drop (j - 1 + 1) = (dg b).drop (j - 1 + 1)) := ⟨by rw [show j - 1 + 1 = j by omega]; exact J.out.2.2⟩
    by_cases lt : x < y
    ·have L : As (a < b) := ⟨by
       have := lt_at (dg_ok' a) (j - 1) ja jb dr.out (by rw [← HX.out, ← HY.out]; exact lt)
       rwa [val_dg', val_dg'] at this⟩
     go_wp2
     go_quiet (fail)
     go_wp2
     go_ret
     rw [cmp_of_lt L.out]
     exact ⟨rfl, drewN_below B.out _⟩
    ·by_cases gt : y < x
     ·have L : As (b < a) := ⟨by
        have := lt_at (dg_ok' b) (j - 1) jb ja dr.out.symm (by rw [← HX.out, ← HY.out]; exact gt)
        rwa [val_dg', val_dg'] at this⟩
      go_wp2
      go_quiet (fail)
      go_wp2
      go_quiet (fail)
      go_wp2
      go_ret
      rw [cmp_of_gt L.out]
      exact ⟨rfl, drewN_below (drewN_below B.out _) _⟩
     ·have xy : x = y := by omega
      go_wp2
      go_quiet (fail)
      go_wp2
      go_quiet (fail)
      go_wp2
      go_roundg (j - 1)
      case measure => omega
      case rel =>
       refine ⟨j - 1, ?_, ⟨by omega, by omega, ?_⟩, ⟨K1.out⟩, ⟨K2.out⟩, ⟨R1.out.drewN _⟩, ⟨R2.out.drewN _⟩, ⟨drewN_below B.out _⟩⟩
       ·rw [show ((j - 1 : Nat) : Int) = (j : Int) - 1 by omega]
       ·rw [List.drop_eq_getElem_cons ja, List.drop_eq_getElem_cons jb, dr.out, ← HX.out, ← HY.out, xy]
 ·have b0 : (((dg a).length : Int) != ((dg b).length : Int)) = true := bne_iff_ne.mpr (by omega)
  by_cases hlt : (dg a).length < (dg b).length
  ·have L := As.mk (len_lt hlt)
   go_enter Try.func60, Try.ntmps60
   go_wp2
   go_ret
   rw [cmp_of_lt L.out]
   exact ⟨rfl, HB.out⟩
  ·have L := As.mk (len_lt (a := b) (b := a) (by omega))
   go_enter Try.func60, Try.ntmps60
   go_wp2
   go_ret
   rw [cmp_of_gt L.out]
   exact ⟨rfl, HB.out⟩
end Go.Proofs.Ytllocgmbjjoemaa.Nv
end
section
set_option linter.unusedVariables false
set_option linter.unusedSimpArgs false
namespace Go.Proofs.Ytllocgmbjjoemaa.Nv
open Go Go.RowKit Dg
theorem Rd.cells {w : World} {A : Option Addr} {l : List Nat} (h : Rd w A l) (hl : 0 < (us l).length) : ∃ ad, A = some ad ∧ ∀ j v, (us l)[j]? = some v → w.cell? (ad.add j) = some v := by
 obtain ⟨ad, e, hc⟩ := h.at_ (by rwa [us_len] at hl)
 refine ⟨ad, e, fun j v hj => ?_⟩
 rw [us, List.getElem?_map] at hj
 obtain ⟨x, hx, rfl⟩ := Option.map_eq_some_iff.1 hj
 exact hc j x hx
set_option maxRecDepth 100000 in
set_option maxHeartbeats 6400000 in
theorem add_calls (v u : Value) (a b : Nat) (w : World) (ha : Num w v a) (hb : Num w u b) (hs : bl (a + b) ≤ 4096) :
    Calls Try.prog 59 #[.agg #[v], .agg #[u]] w fun e w' => ∃ v', e = .returned (.tuple #[.agg #[v'], .int .i64 0]) ∧ Num w' v' (a + b) ∧ Below w.heap.size w w' := by
 obtain ⟨A, c, rfl, hc, hr⟩ := ha
 obtain ⟨A', c', rfl, hc', hr'⟩ := hb
 have la := len128 (n := a) (Nat.le_trans (bl_mono (Nat.le_add_right _ _)) hs)
 have lb := len128 (n := b) (Nat.le_trans (bl_mono (Nat.le_add_left _ _)) hs)
 have HS := As.mk hs
 clear hs
 have R1 := As.mk hr
 have R2 := As.mk hr'
 clear hr hr'
 by_cases hlt : (dg a).length < (dg b).length
 ·obtain ⟨i0, hi0, hz0, hz1, hz2⟩ := info_parts info_u32
  have hs2 : (Try.prog.info? 92).map (·.size) = some 1 := by rw [hi0]; simp [hz1]
  have RP := R2
  have RQ := R1
  go_enter Try.func59, Try.ntmps59
  go_wp2_with (first
   | (at_make; refine wpList_make_lc _ rfl (.tmp 21) (.tmp 21) 56 rfl 92 i0 (.int .u32 0) Try.underlying56 hi0 hz0 .i64 .i64 _ _ ((dg b).length + 1) ((dg b).length + 1) rfl rfl (by simp) (by simp) (Nat.le_refl _) (by rw [hz2]; omega) (by unfold maxLen; omega) ?_; intro w2 h9 g2; obtain ⟨k1, k2, k3, b2⟩ := blk3 g2; have h9' := made_cells hz1 h9; rw [show ∀ o1 o2 o3 : Obj, (((w.alloc o1).alloc o2).alloc o3).heap.size = w.heap.size + 1 + 1 + 1 from fun _ _ _ => by simp] at h9'; have H9 := As.mk h9'; have K1 := As.mk k1; have K2 := As.mk k2; have K3 := As.mk k3; have B2 := As.mk b2; have RP2 := As.mk (RP.out.below b2); have RQ2 := As.mk (RQ.out.below b2); have c1 := cell_of_one K1.out; clear h9 h9' g2 k1 k2 k3 b2)
   | ((with_reducible refine gate_b (b := .copy) (xs := #[.tmp 23, .tmp 25]) rfl ?_); refine wpList_copy_splice rfl (.tmp 23) (.tmp 25) 56 56 rfl 92 Try.underlying56 hs2 (some ⟨w.heap.size + 1 + 1 + 1, 0, none⟩) A' ((dg b).length + 1) ((dg b).length + 1) (dg b).length c' rfl rfl (w.heap.size + 1 + 1 + 1) 0 (us (List.replicate ((dg b).length + 1) 0)) 92 H9.out (us (dg b)) ?cN ?cP ?cF (us_one _) (w.heap.size + 1 + 1 + 1) w2 (Below.refl _ _) (Nat.le_refl _) ?_; (case cN => rw [us_len]; simp); (case cP => exact fun hl => ⟨rfl, RP2.out.cells hl⟩); (case cF => rw [us_len, us_len, List.length_replicate]; omega); intro w3 h3 b3; have h3' := h3.out; rw [splice_us, show (dg b).length + 1 - (dg b).length = 1 by omega] at h3'; have G3 := As.mk (Row.of_cells (w := w3) (g := w.heap.size + 1 + 1 + 1) (c := (dg b).length + 1) (l := dg b ++ [0]) (rest := []) (base := w.heap.size) (by omega) (by rw [List.append_nil]; exact h3') (by simp) (by omega)); have K1' := As.mk ((b3.block w.heap.size (by omega)).trans K1.out); have K2' := As.mk ((b3.block (w.heap.size + 1) (by omega)).trans K2.out); have K3' := As.mk ((b3.block (w.heap.size + 1 + 1) (by omega)).trans K3.out); have B3 := As.mk (B2.out.trans (b3.mono (by omega))); clear h3 h3' b3 c1 K1 K2 K3 B2 H9 RP2 RQ2))
  clear hs2 hi0 hz0 hz1 hz2
  go_loopg [7, 29] ((dg b).length + 1) (fun gk v7 v29 wr => ∃ (j cy : Nat) (o : List Nat), v7 = .int .u64 (cy : Int) ∧ v29 = .int .i64 (j : Int) ∧ As (j ≤ (dg b).length + 1 ∧ (dg b).length + 1 - j ≤ gk) ∧ As (SumS (dg b ++ [0]) (dg a) j cy o) ∧ As (Row wr w.heap.size (w.heap.size + 1 + 1 + 1) ((dg b).length + 1) (o ++ (dg b ++ [0]).drop j)) ∧
   As (wr.heap[w.heap.size]? = some (.cells #[.slice A' ((dg b).length : Nat) c'] 66 (0, 0))) ∧ As (wr.heap[w.heap.size + 1]? = some (.cells #[.slice A ((dg a).length : Nat) c] 66 (0, 0))) ∧ As (wr.heap[w.heap.size + 1 + 1]? = some (.cells #[.slice none 0 0] 66 (0, 0))) ∧ As (Below w.heap.size w wr))
  case atStart => exact ⟨0, 0, [], rfl, rfl, ⟨by omega⟩, ⟨SumS.start _ _⟩, ⟨G3.out⟩, K1', K2', K3', B3⟩
  case round =>
   clear G3 K1' K2' K3' B3
   obtain ⟨j, cy, o, rfl, rfl, J, S, G, K1, K2, K3, B⟩ := hrel
   obtain ⟨jl, jg⟩ := J.out
   have cy1 := S.out.c1
   have c2 := cell_of_one K2.out
   by_cases hj : j < (dg b).length + 1
   ·have jo : j < (o ++ (dg b ++ [0]).drop j).length := by have := S.out.len; simp; omega
    obtain ⟨x, hx⟩ : ∃ x, x = at0 (dg b ++ [0]) j := ⟨_, rfl⟩
    have xb : x < 4294967296 := by rw [hx]; exact at0_ok (ok_snoc (dg_ok' _) (by omega)) j
    obtain ⟨cj, fj⟩ := G.out.get jo
    have ej : (o ++ (dg b ++ [0]).drop j)[j]'jo = x := by
     rw [hx, at0_lt (by simp; omega), List.getElem_append_right (by have := S.out.len; omega)]
     simp [S.out.len]
    rw [ej] at cj
    have HX := As.mk hx
    clear hx ej jo
    obtain ⟨y, hy⟩ : ∃ y, y = at0 (dg a) j := ⟨_, rfl⟩
    have yb : y < 4294967296 := by rw [hy]; exact at0_ok (dg_ok' _) j
    have HY := As.mk hy
    by_cases hq : j < (dg a).length
    ·obtain ⟨ad, hA, cy'⟩ := (RQ.out.above (Nat.le_refl _) (RQ.out.below B.out) (Below.refl _ wr)).get hq
     have ey : (dg a)[j] = y := by rw [hy, at0_lt hq]
     rw [ey] at cy'
     cases hA
     clear hy ey
     go_wp2
     go_roundg ((dg b).length + 1 - (j + 1))
     case measure => omega
     case rel =>
      have N := S.out.next (ok_snoc (dg_ok' _) (by omega)) (dg_ok' _)
      rw [← HX.out, ← HY.out] at N
      have e1 : (((cy + x + y) / 4294967296 : Nat) : Int) = ((cy : Int) + (x : Int) + (y : Int)) / 4294967296 := by omega
      have e2 : (((cy + x + y) % 4294967296 : Nat) : Int) = ((cy : Int) + (x : Int) + (y : Int)) % 4294967296 := by omega
      have G' := G.out.next (x := (cy + x + y) % 4294967296) S.out.len (by simp; omega)
      rw [e2] at G'
      refine ⟨j + 1, _, _, ?_, by simp, ⟨by omega⟩, ⟨N⟩, ⟨G'⟩, ⟨(Below.heap_setCell _ _ _ _ (by show w.heap.size ≠ w.heap.size + 1 + 1 + 1; omega)).trans K1.out⟩, ⟨(Below.heap_setCell _ _ _ _ (by show w.heap.size + 1 ≠ w.heap.size + 1 + 1 + 1; omega)).trans K2.out⟩, ⟨(Below.heap_setCell _ _ _ _ (by show w.heap.size + 1 + 1 ≠ w.heap.size + 1 + 1 + 1; omega)).trans K3.out⟩, ⟨B.out.setCell (by show w.heap.size ≤ w.heap.size + 1 + 1 + 1; omega) _⟩⟩
      rw [e1]
    ·have y0 : y = 0 := by rw [hy, at0_ge (by omega)]
     clear hy
     have Y0 := As.mk y0
     clear y0
     go_wp2
     go_roundg ((dg b).length + 1 - (j + 1))
     case measure => omega
     case rel =>
      have N := S.out.next (ok_snoc (dg_ok' _) (by omega)) (dg_ok' _)
      rw [← HX.out, ← HY.out] at N
      have y0 := Y0.out
      have e1 : (((cy + x + y) / 4294967296 : Nat) : Int) = ((cy : Int) + (x : Int)) / 4294967296 := by omega
      have e2 : (((cy + x + y) % 4294967296 : Nat) : Int) = ((cy : Int) + (x : Int)) % 4294967296 := by omega
      have G' := G.out.next (x := (cy + x + y) % 4294967296) S.out.len (by simp; omega)
      rw [e2] at G'
      refine ⟨j + 1, _, _, ?_, by simp, ⟨by omega⟩, ⟨N⟩, ⟨G'⟩, ⟨(Below.heap_setCell _ _ _ _ (by show w.heap.size ≠ w.heap.size + 1 + 1 + 1; omega)).trans K1.out⟩, ⟨(Below.heap_setCell _ _ _ _ (by show w.heap.size + 1 ≠ w.heap.size + 1 + 1 + 1; omega)).trans K2.out⟩, ⟨(Below.heap_setCell _ _ _ _ (by show w.heap.size + 1 + 1 ≠ w.heap.size + 1 + 1 + 1; omega)).trans K3.out⟩, ⟨B.out.setCell (by show w.heap.size ≤ w.heap.size + 1 + 1 + 1; omega) _⟩⟩
      rw [e1]
   ·have je : j = (dg b).length + 1 := by omega
    subst je
    have ol := S.out.len
    have G1 := G.out
    rw [List.drop_eq_nil_of_le (by simp), List.append_nil] at G1
    have CC := cut_calls (some ⟨w.heap.size + 1 + 1 + 1, 0, none⟩) ((dg b).length + 1) o wr (G1.read (by omega)) S.out.ok (by omega)
    rw [ol] at CC
    have ev : val o = a + b := by have := S.out.stop rfl (by omega); omega
    rw [ev] at CC
    have CO := As.mk CC
    have lt3 : w.heap.size + 1 + 1 < wr.heap.size := by have := G1.lt; omega
    have hs := HS.out
    clear CC ol G1 ev c2
    go_wp2_with (first
     | (go_at_call 55; refine CO.out.mono ?_; rintro e w4 ⟨v4, rfl, hn4, hb4⟩; have N4 := As.mk hn4; have B4 := As.mk (B.out.trans (hb4.mono B.out.size)); have K4 := As.mk ((hb4.block _ lt3).trans K3.out); have lt4 : w.heap.size + 1 + 1 < w4.heap.size := Nat.lt_of_lt_of_le lt3 hb4.size; clear hn4 hb4)
     | (go_at_call 58; refine (fits_calls v4 (a + b) w4 N4.out hs).mono ?_; rintro e w5 ⟨v5, rfl, hn5, hb5⟩; obtain ⟨A5, c5, rfl, hc5, hr5⟩ := hn5; have R5 := As.mk hr5; have B5 := As.mk (B4.out.trans (hb5.mono B4.out.size)); have K5 := As.mk ((hb5.block _ lt4).trans K4.out); have c5' := cell_of_one K5.out; have f5' := free_of_one K5.out; clear hr5 hb5))
    refine bodyPost_ret (ret_nat2 rfl (w.heap.size + 1 + 1) (.slice A5 ((dg (a + b)).length : Nat) c5) (.int .i64 0) rfl rfl (one_setCell K5.out)) rfl ?_
    exact ⟨_, rfl, ⟨A5, c5, rfl, hc5, R5.out.put K5.out (by simp) _⟩, B5.out.setCell (by show w.heap.size ≤ w.heap.size + 1 + 1; omega) _⟩
 ·obtain ⟨i0, hi0, hz0, hz1, hz2⟩ := info_parts info_u32
  have hs2 : (Try.prog.info? 92).map (·.size) = some 1 := by rw [hi0]; simp [hz1]
  have RP := R1
  have RQ := R2
  go_enter Try.func59, Try.ntmps59
  go_wp2_with (first
   | (at_make; refine wpList_make_lc _ rfl (.tmp 21) (.tmp 21) 56 rfl 92 i0 (.int .u32 0) Try.underlying56 hi0 hz0 .i64 .i64 _ _ ((dg a).length + 1) ((dg a).length + 1) rfl rfl (by simp) (by simp) (Nat.le_refl _) (by rw [hz2]; omega) (by unfold maxLen; omega) ?_; intro w2 h9 g2; obtain ⟨k1, k2, k3, b2⟩ := blk3 g2; have h9' := made_cells hz1 h9; rw [show ∀ o1 o2 o3 : Obj, (((w.alloc o1).alloc o2).alloc o3).heap.size = w.heap.size + 1 + 1 + 1 from fun _ _ _ => by simp] at h9'; have H9 := As.mk h9'; have K1 := As.mk k1; have K2 := As.mk k2; have K3 := As.mk k3; have B2 := As.mk b2; have RP2 := As.mk (RP.out.below b2); have RQ2 := As.mk (RQ.out.below b2); have c1 := cell_of_one K1.out; clear h9 h9' g2 k1 k2 k3 b2)
   | ((with_reducible refine gate_b (b := .copy) (xs := #[.tmp 23, .tmp 25]) rfl ?_); refine wpList_copy_splice rfl (.tmp 23) (.tmp 25) 56 56 rfl 92 Try.underlying56 hs2 (some ⟨w.heap.size + 1 + 1 + 1, 0, none⟩) A ((dg a).length + 1) ((dg a).length + 1) (dg a).length c rfl rfl (w.heap.size + 1 + 1 + 1) 0 (us (List.replicate ((dg a).length + 1) 0)) 92 H9.out (us (dg a)) ?cN ?cP ?cF (us_one _) (w.heap.size + 1 + 1 + 1) w2 (Below.refl _ _) (Nat.le_refl _) ?_; (case cN => rw [us_len]; simp); (case cP => exact fun hl => ⟨rfl, RP2.out.cells hl⟩); (case cF => rw [us_len, us_len, List.length_replicate]; omega); intro w3 h3 b3; have h3' := h3.out; rw [splice_us, show (dg a).length + 1 - (dg a).length = 1 by omega] at h3'; have G3 := As.mk (Row.of_cells (w := w3) (g := w.heap.size + 1 + 1 + 1) (c := (dg a).length + 1) (l := dg a ++ [0]) (rest := []) (base := w.heap.size) (by omega) (by rw [List.append_nil]; exact h3') (by simp) (by omega)); have K1' := As.mk ((b3.block w.heap.size (by omega)).trans K1.out); have K2' := As.mk ((b3.block (w.heap.size + 1) (by omega)).trans K2.out); have K3' := As.mk ((b3.block (w.heap.size + 1 + 1) (by omega)).trans K3.out); have B3 := As.mk (B2.out.trans (b3.mono (by omega))); clear h3 h3' b3 c1 K1 K2 K3 B2 H9 RP2 RQ2))
  clear hs2 hi0 hz0 hz1 hz2
  go_loopg [7, 29] ((dg a).length + 1) (fun gk v7 v29 wr => ∃ (j cy : Nat) (o : List Nat), v7 = .int .u64 (cy : Int) ∧ v29 = .int .i64 (j : Int) ∧ As (j ≤ (dg a).length + 1 ∧ (dg a).length + 1 - j ≤ gk) ∧ As (SumS (dg a ++ [0]) (dg b) j cy o) ∧ As (Row wr w.heap.size (w.heap.size + 1 + 1 + 1) ((dg a).length + 1) (o ++ (dg a ++ [0]).drop j)) ∧
   As (wr.heap[w.heap.size]? = some (.cells #[.slice A ((dg a).length : Nat) c] 66 (0, 0))) ∧ As (wr.heap[w.heap.size + 1]? = some (.cells #[.slice A' ((dg b).length : Nat) c'] 66 (0, 0))) ∧ As (wr.heap[w.heap.size + 1 + 1]? = some (.cells #[.slice none 0 0] 66 (0, 0))) ∧ As (Below w.heap.size w wr))
  case atStart => exact ⟨0, 0, [], rfl, rfl, ⟨by omega⟩, ⟨SumS.start _ _⟩, ⟨G3.out⟩, K1', K2', K3', B3⟩
  case round =>
   clear G3 K1' K2' K3' B3
   obtain ⟨j, cy, o, rfl, rfl, J, S, G, K1, K2, K3, B⟩ := hrel
   obtain ⟨jl, jg⟩ := J.out
   have cy1 := S.out.c1
   have c2 := cell_of_one K2.out
   by_cases hj : j < (dg a).length + 1
   ·have jo : j < (o ++ (dg a ++ [0]).drop j).length := by have := S.out.len; simp; omega
    obtain ⟨x, hx⟩ : ∃ x, x = at0 (dg a ++ [0]) j := ⟨_, rfl⟩
    have xb : x < 4294967296 := by rw [hx]; exact at0_ok (ok_snoc (dg_ok' _) (by omega)) j
    obtain ⟨cj, fj⟩ := G.out.get jo
    have ej : (o ++ (dg a ++ [0]).drop j)[j]'jo = x := by
     rw [hx, at0_lt (by simp; omega), List.getElem_append_right (by have := S.out.len; omega)]
     simp [S.out.len]
    rw [ej] at cj
    have HX := As.mk hx
    clear hx ej jo
    obtain ⟨y, hy⟩ : ∃ y, y = at0 (dg b) j := ⟨_, rfl⟩
    have yb : y < 4294967296 := by rw [hy]; exact at0_ok (dg_ok' _) j
    have HY := As.mk hy
    by_cases hq : j < (dg b).length
    ·obtain ⟨ad, hA, cy'⟩ := (RQ.out.above (Nat.le_refl _) (RQ.out.below B.out) (Below.refl _ wr)).get hq
     have ey : (dg b)[j] = y := by rw [hy, at0_lt hq]
     rw [ey] at cy'
     cases hA
     clear hy ey
     go_wp2
     go_roundg ((dg a).length + 1 - (j + 1))
     case measure => omega
     case rel =>
      have N := S.out.next (ok_snoc (dg_ok' _) (by omega)) (dg_ok' _)
      rw [← HX.out, ← HY.out] at N
      have e1 : (((cy + x + y) / 4294967296 : Nat) : Int) = ((cy : Int) + (x : Int) + (y : Int)) / 4294967296 := by omega
      have e2 : (((cy + x + y) % 4294967296 : Nat) : Int) = ((cy : Int) + (x : Int) + (y : Int)) % 4294967296 := by omega
      have G' := G.out.next (x := (cy + x + y) % 4294967296) S.out.len (by simp; omega)
      rw [e2] at G'
      refine ⟨j + 1, _, _, ?_, by simp, ⟨by omega⟩, ⟨N⟩, ⟨G'⟩, ⟨(Below.heap_setCell _ _ _ _ (by show w.heap.size ≠ w.heap.size + 1 + 1 + 1; omega)).trans K1.out⟩, ⟨(Below.heap_setCell _ _ _ _ (by show w.heap.size + 1 ≠ w.heap.size + 1 + 1 + 1; omega)).trans K2.out⟩, ⟨(Below.heap_setCell _ _ _ _ (by show w.heap.size + 1 + 1 ≠ w.heap.size + 1 + 1 + 1; omega)).trans K3.out⟩, ⟨B.out.setCell (by show w.heap.size ≤ w.heap.size + 1 + 1 + 1; omega) _⟩⟩
      rw [e1]
    ·have y0 : y = 0 := by rw [hy, at0_ge (by omega)]
     clear hy
     have Y0 := As.mk y0
     clear y0
     go_wp2
     go_roundg ((dg a).length + 1 - (j + 1))
     case measure => omega
     case rel =>
      have N := S.out.next (ok_snoc (dg_ok' _) (by omega)) (dg_ok' _)
      rw [← HX.out, ← HY.out] at N
      have y0 := Y0.out
      have e1 : (((cy + x + y) / 4294967296 : Nat) : Int) = ((cy : Int) + (x : Int)) / 4294967296 := by omega
      have e2 : (((cy + x + y) % 4294967296 : Nat) : Int) = ((cy : Int) + (x : Int)) % 4294967296 := by omega
      have G' := G.out.next (x := (cy + x + y) % 4294967296) S.out.len (by simp; omega)
      rw [e2] at G'
      refine ⟨j + 1, _, _, ?_, by simp, ⟨by omega⟩, ⟨N⟩, ⟨G'⟩, ⟨(Below.heap_setCell _ _ _ _ (by show w.heap.size ≠ w.heap.size + 1 + 1 + 1; omega)).trans K1.out⟩, ⟨(Below.heap_setCell _ _ _ _ (by show w.heap.size + 1 ≠ w.heap.size + 1 + 1 + 1; omega)).trans K2.out⟩, ⟨(Below.heap_setCell _ _ _ _ (by show w.heap.size + 1 + 1 ≠ w.heap.size + 1 + 1 + 1; omega)).trans K3.out⟩, ⟨B.out.setCell (by show w.heap.size ≤ w.heap.size + 1 + 1 + 1; omega) _⟩⟩
      rw [e1]
   ·have je : j = (dg a).length + 1 := by omega
    subst je
    have ol := S.out.len
    have G1 := G.out
    rw [List.drop_eq_nil_of_le (by simp), List.append_nil] at G1
    have CC := cut_calls (some ⟨w.heap.size + 1 + 1 + 1, 0, none⟩) ((dg a).length + 1) o wr (G1.read (by omega)) S.out.ok (by omega)
    rw [ol] at CC
    have ev : val o = a + b := by have := S.out.stop rfl (by omega); omega
    rw [ev] at CC
    have CO := As.mk CC
    have lt3 : w.heap.size + 1 + 1 < wr.heap.size := by have := G1.lt; omega
    have hs := HS.out
    clear CC ol G1 ev c2
    go_wp2_with (first
     | (go_at_call 55; refine CO.out.mono ?_; rintro e w4 ⟨v4, rfl, hn4, hb4⟩; have N4 := As.mk hn4; have B4 := As.mk (B.out.trans (hb4.mono B.out.size)); have K4 := As.mk ((hb4.block _ lt3).trans K3.out); have lt4 : w.heap.size + 1 + 1 < w4.heap.size := Nat.lt_of_lt_of_le lt3 hb4.size; clear hn4 hb4)
     | (go_at_call 58; refine (fits_calls v4 (a + b) w4 N4.out hs).mono ?_; rintro e w5 ⟨v5, rfl, hn5, hb5⟩; obtain ⟨A5, c5, rfl, hc5, hr5⟩ := hn5; have R5 := As.mk hr5; have B5 := As.mk (B4.out.trans (hb5.mono B4.out.size)); have K5 := As.mk ((hb5.block _ lt4).trans K4.out); have c5' := cell_of_one K5.out; have f5' := free_of_one K5.out; clear hr5 hb5))
    refine bodyPost_ret (ret_nat2 rfl (w.heap.size + 1 + 1) (.slice A5 ((dg (a + b)).length : Nat) c5) (.int .i64 0) rfl rfl (one_setCell K5.out)) rfl ?_
    exact ⟨_, rfl, ⟨A5, c5, rfl, hc5, R5.out.put K5.out (by simp) _⟩, B5.out.setCell (by show w.heap.size ≤ w.heap.size + 1 + 1; omega) _⟩
end Go.Proofs.Ytllocgmbjjoemaa.Nv
end
section
set_option linter.unusedVariables false
set_option linter.unusedSimpArgs false
namespace Go.Proofs.Ytllocgmbjjoemaa.Nv
open Go Go.RowKit Dg
theorem cmp_ge {a b : Nat} (h : b ≤ a) : decide (cmp a b < 0) = false := by
 unfold cmp
 rw [if_neg (by omega)]
 split <;> rfl
theorem dg_mono {a b : Nat} (h : b ≤ a) : (dg b).length ≤ (dg a).length := by
 have h1 := val_lt (dg_ok' a)
 rw [val_dg'] at h1
 exact dg_len _ b (Nat.lt_of_le_of_lt h h1)
set_option maxRecDepth 100000 in
set_option maxHeartbeats 6400000 in
theorem sub_calls (v u : Value) (a b : Nat) (w : World) (ha : Num w v a) (hb : Num w u b) (hs : bl a ≤ 4096) (le : b ≤ a) :
    Calls Try.prog 61 #[.agg #[v], .agg #[u]] w fun e w' => ∃ v', e = .returned (.tuple #[.agg #[v'], .int .i64 0]) ∧ Num w' v' (a - b) ∧ Below w.heap.size w w' := by
 obtain ⟨A, c, rfl, hc, hr⟩ := ha
 obtain ⟨A', c', rfl, hc', hr'⟩ := hb
 have la := len128 hs
 have lb := dg_mono le
 have LE := As.mk le
 have hlt := cmp_ge le
 have R1 := As.mk hr
 have R2 := As.mk hr'
 have B0 : Below w.heap.size w (((w.alloc (.cells #[.slice A ((dg a).length : Nat) c] 66)).alloc (.cells #[.slice A' ((dg b).length : Nat) c'] 66)).alloc (.cells #[.slice none 0 0] 66)) :=
  (((Below.refl _ w).alloc (Nat.le_refl _) _).alloc (by simp) _).alloc (by simp; omega) _
 have N1 : As (Num (((w.alloc (.cells #[.slice A ((dg a).length : Nat) c] 66)).alloc (.cells #[.slice A' ((dg b).length : Nat) c'] 66)).alloc (.cells #[.slice none 0 0] 66)) (.slice A ((dg a).length : Nat) c) a) := ⟨⟨A, c, rfl, hc, hr.below B0⟩⟩
 have N2 : As (Num (((w.alloc (.cells #[.slice A ((dg a).length : Nat) c] 66)).alloc (.cells #[.slice A' ((dg b).length : Nat) c'] 66)).alloc (.cells #[.slice none 0 0] 66)) (.slice A' ((dg b).length : Nat) c') b) := ⟨⟨A', c', rfl, hc', hr'.below B0⟩⟩
 clear hr hr' B0 le
 obtain ⟨i0, hi0, hz0, hz1, hz2⟩ := info_parts info_u32
 have hs2 : (Try.prog.info? 92).map (·.size) = some 1 := by rw [hi0]; simp [hz1]
 go_enter Try.func61, Try.ntmps61
 go_wp2_with (first
  | (go_at_call 60; refine (cmp_calls _ _ a b _ N1.out N2.out).mono ?_; rintro e w1 ⟨rfl, hb1⟩; obtain ⟨k1, k2, k3, b1⟩ := blk3 (grown_of_below hb1 none); have K1 := As.mk k1; have K2 := As.mk k2; have K3 := As.mk k3; have B1 := As.mk b1; have RP1 := As.mk (R1.out.below b1); have RQ1 := As.mk (R2.out.below b1); have sz1 : w.heap.size + 1 + 1 < w1.heap.size := lt_of_block k3; have c1 := cell_of_one K1.out; have c2 := cell_of_one K2.out; clear hb1 k1 k2 k3 b1)
  | (at_make; refine wpList_make_lc _ rfl (.tmp 14) (.tmp 14) 56 rfl 92 i0 (.int .u32 0) Try.underlying56 hi0 hz0 .i64 .i64 _ _ ((dg a).length) ((dg a).length) rfl rfl rfl rfl (Nat.le_refl _) (by rw [hz2]; omega) (by unfold maxLen; omega) ?_; intro w2 h9 g2; have h9' := made_cells hz1 h9; have H9 := As.mk h9'; have b2 := made_below g2; have K1' := As.mk ((b2.block _ (by omega)).trans K1.out); have K2' := As.mk ((b2.block _ (by omega)).trans K2.out); have K3' := As.mk ((b2.block _ (by omega)).trans K3.out); have B2 := As.mk (B1.out.trans (b2.mono (by omega))); have RP2 := As.mk (RP1.out.below b2); have RQ2 := As.mk (RQ1.out.below b2); have sz2 := b2.size; have sz3 : w1.heap.size < w2.heap.size := lt_of_block h9'; have FQ := As.mk (RQ1.out.far (g := w1.heap.size) (Nat.le_refl _)); clear c1 c2 h9 h9' g2 b2 K1 K2 K3 B1 RP1 RQ1; have c1 := cell_of_one K1'.out; have c2 := cell_of_one K2'.out)
  | ((with_reducible refine gate_b (b := .copy) (xs := #[.tmp 16, .tmp 18]) rfl ?_); refine wpList_copy_splice rfl (.tmp 16) (.tmp 18) 56 56 rfl 92 Try.underlying56 hs2 (some ⟨w1.heap.size, 0, none⟩) A ((dg a).length) ((dg a).length) (dg a).length c rfl rfl (w1.heap.size) 0 (us (List.replicate ((dg a).length) 0)) 92 H9.out (us (dg a)) ?cN ?cP ?cF (us_one _) (w1.heap.size) w2 (Below.refl _ _) (Nat.le_refl _) ?_; (case cN => rw [us_len]; simp); (case cP => exact fun hl => ⟨rfl, RP2.out.cells hl⟩); (case cF => rw [us_len, us_len, List.length_replicate]; omega); intro w3 h3 b3; have h3' := h3.out; rw [splice_us, Nat.sub_self, List.replicate_zero] at h3'; have G3 := As.mk (Row.of_cells (w := w3) (g := w1.heap.size) (c := (dg a).length) (l := dg a) (rest := []) (base := w.heap.size) (by omega) h3' (by simp) (by omega)); have K2 := As.mk ((b3.block _ (by omega)).trans K2'.out); have K3 := As.mk ((b3.block _ (by omega)).trans K3'.out); have B3 := As.mk (B2.out.trans (b3.mono (by omega))); have sz4 := b3.size; have RQ3 := As.mk (R2.out.above (B := w1.heap.size) (by omega) RQ2.out b3); clear c1 c2; have c2 := cell_of_one K2.out; clear h3 h3' b3 K1' K2' K3' B2 H9)
  | (go_at_call 69; refine (less_calls w.heap.size w1.heap.size (dg a).length c' A' (dg a) (dg b) w3 G3.out RQ3.out FQ.out (dg_ok' a) (dg_ok' b) lb (by omega) (by rw [val_dg', val_dg']; exact LE.out)).mono ?_; rintro e w4 ⟨rfl, o, hG, hol, hok, hv, hgr⟩; have ev : val o = a - b := (by rw [val_dg', val_dg'] at hv; omega); have CC := cut_calls (some ⟨w1.heap.size, 0, none⟩) ((dg a).length) o w4 (hG.read (by omega)) hok (by omega); rw [hol, ev] at CC; have CO := As.mk CC; have K4 := As.mk ((hgr.block _ (by omega) (fun e => by have := Option.some.inj e; omega)).trans K3.out); have B4 := As.mk (B3.out.grown hgr (by omega) (fun k e => by have := Option.some.inj e; omega)); have sz5 := hgr.size; clear CC hG hol hok hv hgr ev c2)
  | (go_at_call 55; refine CO.out.mono ?_; rintro e w5 ⟨v5, rfl, hn5, hb5⟩; obtain ⟨A5, c5, rfl, hc5, hr5⟩ := hn5; have R5 := As.mk hr5; have B5 := As.mk (B4.out.trans (hb5.mono B4.out.size)); have K5 := As.mk ((hb5.block _ (by omega)).trans K4.out); have c5' := cell_of_one K5.out; have f5' := free_of_one K5.out; clear hr5 hb5))
 refine bodyPost_ret (ret_nat2 rfl (w.heap.size + 1 + 1) (.slice A5 ((dg (a - b)).length : Nat) c5) (.int .i64 0) rfl rfl (one_setCell K5.out)) rfl ?_
 exact ⟨_, rfl, ⟨A5, c5, rfl, hc5, R5.out.put K5.out (by simp) _⟩, B5.out.setCell (by show w.heap.size ≤ w.heap.size + 1 + 1; omega) _⟩
end Go.Proofs.Ytllocgmbjjoemaa.Nv
end
section
set_option linter.unusedVariables false
set_option linter.unusedSimpArgs false
namespace Go.Proofs.Ytllocgmbjjoemaa.Nv
open Go Go.RowKit Dg
set_option maxRecDepth 100000 in
set_option maxHeartbeats 6400000 in
theorem product_calls (v u : Value) (a b : Nat) (w : World) (ha : Num w v a) (hb : Num w u b) (la : (dg a).length ≤ 1000) (lb : (dg b).length ≤ 1000) :
    Calls Try.prog 57 #[.agg #[v], .agg #[u]] w fun e w' => ∃ v', e = .returned (.agg #[v']) ∧ Num w' v' (a * b) ∧ Below w.heap.size w w' := by
 obtain ⟨A, c, rfl, hc, hr⟩ := ha
 obtain ⟨A', c', rfl, hc', hr'⟩ := hb
 have R1 := As.mk hr
 have R2 := As.mk hr'
 clear hr hr'
 obtain ⟨i0, hi0, hz0, hz1, hz2⟩ := info_parts info_u32
 go_enter Try.func57, Try.ntmps57
 go_wp2_with (first
  | (at_make; refine wpList_make_lc _ rfl (.tmp 17) (.tmp 17) 56 rfl 92 i0 (.int .u32 0) Try.underlying56 hi0 hz0 .i64 .i64 _ _ ((dg a).length + (dg b).length) ((dg a).length + (dg b).length) rfl rfl (by simp) (by simp) (Nat.le_refl _) (by rw [hz2]; omega) (by unfold maxLen; omega) ?_; intro w2 h9 g2; obtain ⟨k1, k2, k3, b2⟩ := blk3 g2; have h9' := made_cells hz1 h9; rw [show ∀ o1 o2 o3 : Obj, (((w.alloc o1).alloc o2).alloc o3).heap.size = w.heap.size + 1 + 1 + 1 from fun _ _ _ => by simp] at h9'; have G2 := As.mk (Row.of_cells (w := w2) (g := w.heap.size + 1 + 1 + 1) (c := (dg a).length + (dg b).length) (l := List.replicate ((dg a).length + (dg b).length) 0) (rest := []) (base := w.heap.size) (by omega) (by rw [List.append_nil]; exact h9') (by simp) (by omega)); have K1 := As.mk k1; have K2 := As.mk k2; have K3 := As.mk k3; have B2 := As.mk b2; have RP2 := As.mk (R1.out.below b2); have c1 := cell_of_one K1.out; have c2 := cell_of_one K2.out; clear h9 h9' g2 k1 k2 k3 b2))
 clear hi0 hz0 hz1 hz2
 go_loopg [22] (dg a).length (fun gk v22 wr => ∃ (i : Nat) (out : List Nat), v22 = .int .i64 (i : Int) ∧ As (i ≤ (dg a).length ∧ (dg a).length - i ≤ gk) ∧ As (Pro (dg a) (dg b) i out) ∧ As (Row wr w.heap.size (w.heap.size + 1 + 1 + 1) ((dg a).length + (dg b).length) out) ∧
  As (wr.heap[w.heap.size + 1]? = some (.cells #[.slice A' ((dg b).length : Nat) c'] 66 (0, 0))) ∧ As (wr.heap[w.heap.size + 1 + 1]? = some (.cells #[.slice none 0 0] 66 (0, 0))) ∧ As (Below w.heap.size w wr))
 case atStart => exact ⟨0, _, rfl, ⟨by omega⟩, ⟨Pro.start _ _⟩, G2, K2, K3, B2⟩
 case round =>
  clear G2 K1 K2 K3 B2 RP2
  obtain ⟨i, out, rfl, I, S, G, K2, K3, B⟩ := hrel
  obtain ⟨il, ig⟩ := I.out
  have ol := S.out.len
  have c2 := cell_of_one K2.out
  by_cases hi : i < (dg a).length
  ·obtain ⟨ad, hA, cx⟩ := (R1.out.below B.out).get hi
   obtain ⟨x, hx⟩ : ∃ x, x = (dg a)[i] := ⟨_, rfl⟩
   have xb : x < 4294967296 := by rw [hx]; exact dg_ok' a _ (List.getElem_mem hi)
   rw [← hx] at cx
   have HX := As.mk hx
   cases hA
   clear hx
   go_wp2
   go_loopg [8, 30] (dg b).length (fun gk v8 v30 wx => ∃ (j cy : Nat) (o : List Nat), v8 = .int .u64 (cy : Int) ∧ v30 = .int .i64 (j : Int) ∧ As (j ≤ (dg b).length ∧ (dg b).length - j ≤ gk) ∧ As (Row1 (dg a) (dg b) i x j cy o) ∧ As (Row wx w.heap.size (w.heap.size + 1 + 1 + 1) ((dg a).length + (dg b).length) o) ∧
    As (wx.heap[w.heap.size + 1]? = some (.cells #[.slice A' ((dg b).length : Nat) c'] 66 (0, 0))) ∧ As (wx.heap[w.heap.size + 1 + 1]? = some (.cells #[.slice none 0 0] 66 (0, 0))) ∧ As (Below w.heap.size w wx))
   case atStart => exact ⟨0, 0, out, rfl, rfl, ⟨by omega⟩, ⟨S.out.row x⟩, G, K2, K3, B⟩
   case round =>
    clear S G K2 K3 B c2 cx ol
    obtain ⟨j, cy, o, rfl, rfl, J, S, G, K2, K3, B⟩ := hrel
    obtain ⟨jl, jg⟩ := J.out
    have c2 := cell_of_one K2.out
    have cyb := S.out.c1
    have ol := S.out.len
    by_cases hj : j < (dg b).length
    ·obtain ⟨ad', hA', cy'⟩ := (R2.out.below B.out).get hj
     obtain ⟨y, hy⟩ : ∃ y, y = (dg b)[j] := ⟨_, rfl⟩
     have yb : y < 4294967296 := by rw [hy]; exact dg_ok' b _ (List.getElem_mem hj)
     rw [← hy] at cy'
     have HY := As.mk hy
     cases hA'
     clear hy
     have ko : i + j < o.length := by omega
     obtain ⟨z, hz⟩ : ∃ z, z = o[i + j] := ⟨_, rfl⟩
     have zb : z < 4294967296 := by rw [hz]; exact S.out.ok _ (List.getElem_mem ko)
     obtain ⟨cz, fz⟩ := G.out.get ko
     rw [← hz] at cz
     have HZ := As.mk hz
     clear hz
     have bd := bound xb yb zb cyb
     have xy : (x : Int) * (y : Int) = ((x * y : Nat) : Int) := (Int.natCast_mul _ _).symm
     have xy0 : 0 ≤ (x : Int) * (y : Int) := by rw [xy]; omega
     have xy1 : (x : Int) * (y : Int) ≤ 18446744065119617025 := by rw [xy]; omega
     have XY := As.mk xy
     have BD := As.mk bd
     clear xy bd
     go_wp2
     go_roundg ((dg b).length - (j + 1))
     case measure => omega
     case rel =>
      have N := S.out.next hi hj xb (dg_ok' b)
      rw [← HY.out, ← HZ.out] at N
      have e1 : (((cy + (x * y + z)) / 4294967296 : Nat) : Int) = ((cy : Int) + ((x : Int) * (y : Int) + (z : Int))) / 4294967296 := by rw [XY.out]; omega
      have e2 : (((cy + (x * y + z)) % 4294967296 : Nat) : Int) = ((cy : Int) + ((x : Int) * (y : Int) + (z : Int))) % 4294967296 := by rw [XY.out]; omega
      have G' := G.out.set (i + j) ((cy + (x * y + z)) % 4294967296)
      rw [e2] at G'
      refine ⟨j + 1, _, _, ?_, by simp, ⟨by omega⟩, ⟨N⟩, ⟨G'⟩, ⟨(Below.heap_setCell _ _ _ _ (by show w.heap.size + 1 ≠ w.heap.size + 1 + 1 + 1; omega)).trans K2.out⟩, ⟨(Below.heap_setCell _ _ _ _ (by show w.heap.size + 1 + 1 ≠ w.heap.size + 1 + 1 + 1; omega)).trans K3.out⟩, ⟨B.out.setCell (by show w.heap.size ≤ w.heap.size + 1 + 1 + 1; omega) _⟩⟩
      rw [e1]
    ·have je : j = (dg b).length := by omega
     subst je
     obtain ⟨cz, fz⟩ := G.out.get (j := i + (dg b).length) (by omega)
     go_wp2
     go_roundg ((dg a).length - (i + 1))
     case measure => omega
     case rel => exact ⟨i + 1, _, by simp, ⟨by omega⟩, ⟨S.out.stop hi HX.out⟩, ⟨G.out.set (i + (dg b).length) cy⟩, ⟨(Below.heap_setCell _ _ _ _ (by show w.heap.size + 1 ≠ w.heap.size + 1 + 1 + 1; omega)).trans K2.out⟩, ⟨(Below.heap_setCell _ _ _ _ (by show w.heap.size + 1 + 1 ≠ w.heap.size + 1 + 1 + 1; omega)).trans K3.out⟩, ⟨B.out.setCell (by show w.heap.size ≤ w.heap.size + 1 + 1 + 1; omega) _⟩⟩
  ·have ie : i = (dg a).length := by omega
   subst ie
   have ev : val out = a * b := by have := S.out.eq; rw [List.take_length, val_dg', val_dg'] at this; exact this
   have CC := cut_calls (some ⟨w.heap.size + 1 + 1 + 1, 0, none⟩) ((dg a).length + (dg b).length) out wr (G.out.read (by omega)) S.out.ok (by omega)
   rw [ol, ev] at CC
   have CO := As.mk CC
   have lt3 : w.heap.size + 1 + 1 < wr.heap.size := by have := G.out.lt; omega
   clear CC ev c2 ol
   go_wp2_with (first
    | (go_at_call 55; refine CO.out.mono ?_; rintro e w5 ⟨v5, rfl, hn5, hb5⟩; obtain ⟨A5, c5, rfl, hc5, hr5⟩ := hn5; have R5 := As.mk hr5; have B5 := As.mk (B.out.trans (hb5.mono B.out.size)); have K5 := As.mk ((hb5.block _ lt3).trans K3.out); have c5' := cell_of_one K5.out; have f5' := free_of_one K5.out; clear hr5 hb5))
   refine bodyPost_ret (ret_nat rfl (w.heap.size + 1 + 1) (.slice A5 ((dg (a * b)).length : Nat) c5) rfl (one_setCell K5.out)) rfl ?_
   exact ⟨_, rfl, ⟨A5, c5, rfl, hc5, R5.out.put K5.out (by simp) _⟩, B5.out.setCell (by show w.heap.size ≤ w.heap.size + 1 + 1; omega) _⟩
end Go.Proofs.Ytllocgmbjjoemaa.Nv
end
section
set_option linter.unusedVariables false
set_option linter.unusedSimpArgs false
namespace Go.Proofs.Ytllocgmbjjoemaa.Nv
open Go Go.RowKit Dg
theorem product_rd (A A' : Option Addr) (c c' a b : Nat) (w : World) (hc : (dg a).length ≤ c) (hr : Rd w A (dg a)) (hc' : (dg b).length ≤ c') (hr' : Rd w A' (dg b)) (la : (dg a).length ≤ 1000) (lb : (dg b).length ≤ 1000) :
    Calls Try.prog 57 #[.agg #[.slice A (dg a).length c], .agg #[.slice A' (dg b).length c']] w fun e w' => ∃ v', e = .returned (.agg #[v']) ∧ Num w' v' (a * b) ∧ Below w.heap.size w w' :=
 product_calls _ _ a b w ⟨A, c, rfl, hc, hr⟩ ⟨A', c', rfl, hc', hr'⟩ la lb
theorem bl_prodk {a b k : Nat} (h : bl a + bl b ≤ k) : bl (a * b) ≤ k := bl_le.2 (by
 have h1 := bl_lt a
 have h2 := bl_lt b
 have h3 : a * b < 2 ^ bl a * 2 ^ bl b := by
  rcases Nat.eq_zero_or_pos b with z | z
  ·subst z; rw [Nat.mul_zero]; exact Nat.mul_pos (Nat.pow_pos (by omega)) (Nat.pow_pos (by omega))
  ·exact Nat.lt_of_lt_of_le ((Nat.mul_lt_mul_right z).2 h1) (Nat.mul_le_mul_left _ (by omega))
 rw [← Nat.pow_add] at h3
 exact Nat.lt_of_lt_of_le h3 (Nat.pow_le_pow_right (by omega) h))
theorem bl_prod {a b : Nat} (h : bl a + bl b ≤ 4096) : bl (a * b) ≤ 4096 := bl_prodk h
set_option maxRecDepth 100000 in
set_option maxHeartbeats 6400000 in
theorem mul_calls (v u : Value) (a b : Nat) (w : World) (ha : Num w v a) (hb : Num w u b) (hs : bl a + bl b ≤ 4096) :
    Calls Try.prog 48 #[.agg #[v], .agg #[u]] w fun e w' => ∃ v', e = .returned (.tuple #[.agg #[v'], .int .i64 0]) ∧ Num w' v' (a * b) ∧ Below w.heap.size w w' := by
 obtain ⟨A, c, rfl, hc, hr⟩ := ha
 obtain ⟨A', c', rfl, hc', hr'⟩ := hb
 have la := len128 (n := a) (by omega)
 have lb := len128 (n := b) (by omega)
 have R1 := As.mk hr
 have R2 := As.mk hr'
 clear hr hr'
 have sz : ∀ o1 o2 o3 : Obj, (((w.alloc o1).alloc o2).alloc o3).heap.size = w.heap.size + 1 + 1 + 1 := fun _ _ _ => by simp
 obtain ⟨k1, k2, k3, b0⟩ := blk3 (w := w) (o1 := .cells #[.slice A ((dg a).length : Nat) c] 66) (o2 := .cells #[.slice A' ((dg b).length : Nat) c'] 66) (o3 := .cells #[.slice none 0 0] 66) (World.grownBy.refl _ _)
 have K1 := As.mk k1
 have K2 := As.mk k2
 have K3 := As.mk k3
 have B := As.mk b0
 have L3 := As.mk (lt_of_block k3)
 clear k1 k2 k3 b0 sz
 have ev : Value.bool (decide ((4097 : Int) < IntKind.i64.wrap ((bl a : Int) + (bl b : Int)))) = Value.bool false := by
  rw [IntKind.wrap_i64, decide_eq_false (by omega)]
 have EV := As.mk ev
 clear ev
 go_enter Try.func48, Try.ntmps48
 go_wp2
 go_cut [11] (fun s11 wx => s11 = .bool false ∧ As (wx.heap[w.heap.size]? = some (.cells #[.slice A ((dg a).length : Nat) c] 66 (0, 0))) ∧ As (wx.heap[w.heap.size + 1]? = some (.cells #[.slice A' ((dg b).length : Nat) c'] 66 (0, 0))) ∧ As (wx.heap[w.heap.size + 1 + 1]? = some (.cells #[.slice none 0 0] 66 (0, 0))) ∧ As (Below w.heap.size w wx))
 case first =>
  go_region_with (first | (go_at_call 47; (first | (with_reducible refine (bits_rd A c a _ hc (R1.out.below ?bb)).mono ?_; (case bb => first | exact B.out | exact B.out.drew)) | (with_reducible refine (bits_rd A' c' b _ hc' (R2.out.below ?bb)).mono ?_; (case bb => first | exact B.out | exact B.out.drew))); rintro e w2 ⟨rfl, hb⟩; have B2 := As.mk (by first | exact B.out.trans (hb.mono B.out.size) | exact B.out.drew.trans (hb.mono B.out.size) : Below w.heap.size w w2); have L3' := As.mk (Nat.lt_of_lt_of_le L3.out hb.size); have K1' := As.mk ((hb.block _ (Nat.lt_of_le_of_lt (by omega) L3.out)).trans K1.out); have K2' := As.mk ((hb.block _ (Nat.lt_of_le_of_lt (by omega) L3.out)).trans K2.out); have K3' := As.mk ((hb.block _ L3.out).trans K3.out); clear hb B K1 K2 K3 L3; have B := B2; have K1 := K1'; have K2 := K2'; have K3 := K3'; have L3 := L3'; have c1 := cell_of_one K1.out; have c2 := cell_of_one K2.out; clear B2 K1' K2' K3' L3'))
  all_goals (go_wp2_with fail; go_meet; exact ⟨EV.out, K1, K2, K3, B⟩)
 case rest =>
  obtain ⟨rfl, K1, K2, K3, B⟩ := hcut
  have L3 := As.mk (lt_of_block K3.out)
  have c1 := cell_of_one K1.out
  have c2 := cell_of_one K2.out
  have RA := As.mk (R1.out.below B.out)
  have RB := As.mk (R2.out.below B.out)
  have HP := As.mk (bl_prod hs)
  go_wp2_with (first
   | (go_at_call 57; (with_reducible refine (product_rd A A' c c' a b _ hc RA.out hc' RB.out ?la ?lb).mono ?_); (case la => omega); (case lb => omega); rintro e w4 ⟨v4, rfl, hn4, hb4⟩; have N4 := As.mk hn4; have B4 := As.mk (B.out.trans (hb4.mono B.out.size)); have K4 := As.mk ((hb4.block _ L3.out).trans K3.out); have L4 := Nat.lt_of_lt_of_le L3.out hb4.size; clear hn4 hb4)
   | (go_at_call 58; (with_reducible refine (fits_calls v4 (a * b) _ N4.out HP.out).mono ?_); rintro e w5 ⟨v5, rfl, hn5, hb5⟩; obtain ⟨A5, c5, rfl, hc5, hr5⟩ := hn5; have R5 := As.mk hr5; have B5 := As.mk (B4.out.trans (hb5.mono B4.out.size)); have K5 := As.mk ((hb5.block _ L4).trans K4.out); have c5' := cell_of_one K5.out; have f5' := free_of_one K5.out; clear hr5 hb5))
  refine bodyPost_ret (ret_nat2 rfl (w.heap.size + 1 + 1) (.slice A5 ((dg (a * b)).length : Nat) c5) (.int .i64 0) rfl rfl (one_setCell K5.out)) rfl ?_
  exact ⟨_, rfl, ⟨A5, c5, rfl, hc5, R5.out.put K5.out (by simp) _⟩, B5.out.setCell (by show w.heap.size ≤ w.heap.size + 1 + 1; omega) _⟩
end Go.Proofs.Ytllocgmbjjoemaa.Nv
end
section
set_option linter.unusedVariables false
set_option linter.unusedSimpArgs false
namespace Go.Proofs.Ytllocgmbjjoemaa.Dg
set_option maxRecDepth 10000
structure Sh (l : List Nat) (b j r : Nat) (hi : List Nat) : Prop where
 len : hi.length + j = l.length
 ok : ok hi
 r1 : r < b
 eq : val hi * b + r = val (l.drop j)
theorem Sh.start {l : List Nat} {b : Nat} (hb : 0 < b) : Sh l b l.length 0 [] := ⟨by simp, fun x hx => absurd hx (by simp), hb, by rw [List.drop_length]; simp [val]⟩
theorem Sh.next {l : List Nat} {b j r : Nat} {hi : List Nat} (h : Sh l b (j + 1) r hi) (okl : Dg.ok l) (hj : j < l.length) :
    Sh l b j ((r * 4294967296 + l[j]) % b) (((r * 4294967296 + l[j]) / b) :: hi) := by
 have b0 : 0 < b := by have := h.r1; omega
 have x := okl _ (List.getElem_mem hj)
 have q : (r * 4294967296 + l[j]) / b < 4294967296 := by
  rw [Nat.div_lt_iff_lt_mul b0]
  have : (r + 1) * 4294967296 ≤ b * 4294967296 := Nat.mul_le_mul_right _ h.r1
  rw [Nat.mul_comm 4294967296 b]; omega
 refine ⟨by have := h.len; simp; omega, fun y hy => ?_, Nat.mod_lt _ b0, ?_⟩
 ·rcases List.mem_cons.1 hy with e | e
  ·omega
  ·exact h.ok y e
 ·rw [List.drop_eq_getElem_cons hj, val, val, ← h.eq, Nat.add_mul]
  have d := Nat.div_add_mod (r * 4294967296 + l[j]) b
  rw [Nat.mul_comm b] at d
  have : 4294967296 * val hi * b = 4294967296 * (val hi * b) := Nat.mul_assoc _ _ _
  rw [this]
  generalize val hi * b = V at *
  omega
theorem Sh.stop {l : List Nat} {b r : Nat} {hi : List Nat} (h : Sh l b 0 r hi) : val hi = val l / b ∧ r = val l % b := by
 have e := h.eq
 rw [List.drop_zero] at e
 have b0 : 0 < b := by have := h.r1; omega
 rw [← e]
 constructor
 ·rw [Nat.mul_comm, Nat.mul_add_div b0, Nat.div_eq_of_lt h.r1]; rfl
 ·rw [Nat.mul_comm, Nat.mul_add_mod, Nat.mod_eq_of_lt h.r1]
theorem Sh.digit {l : List Nat} {b j r : Nat} {hi : List Nat} (h : Sh l b (j + 1) r hi) (okl : Dg.ok l) (hj : j < l.length) : (r * 4294967296 + l[j]) / b < 4294967296 := (h.next okl hj).ok _ List.mem_cons_self
theorem set_at {l hi : List Nat} {j y : Nat} (hj : j < l.length) : (l.take (j + 1) ++ hi).set j y = l.take j ++ y :: hi := by
 rw [List.take_succ_eq_append_getElem hj, List.append_assoc, List.set_append_right _ _ (by rw [List.length_take]; omega), List.length_take, Nat.min_eq_left (by omega), Nat.sub_self]; rfl
end Go.Proofs.Ytllocgmbjjoemaa.Dg
end
section
set_option linter.unusedVariables false
set_option linter.unusedSimpArgs false
namespace Go.Proofs.Ytllocgmbjjoemaa.Nv
open Go
theorem ofn64 (a : Nat) (h : a < 18446744073709551616) : (BitVec.ofInt 64 (a : Int)).toNat = a := by
 rw [BitVec.ofInt_natCast, BitVec.toNat_ofNat]; exact Nat.mod_eq_of_lt (by omega)
theorem u64_wrap (n : Nat) (h : n < 18446744073709551616) : IntKind.u64.wrap (n : Int) = (n : Int) := by rw [IntKind.wrap_u64]; omega
theorem b_or64 (a b : Nat) (ha : a < 18446744073709551616) (hb : b < 18446744073709551616) : Go.bits .or .u64 (a : Int) (b : Int) = ((a ||| b : Nat) : Int) := by
 show IntKind.u64.wrap (((BitVec.ofInt 64 (a : Int)) ||| (BitVec.ofInt 64 (b : Int))).toNat : Int) = _
 rw [BitVec.toNat_or, ofn64 a ha, ofn64 b hb]
 exact u64_wrap _ (Nat.or_lt_two_pow (n := 64) (by omega) (by omega))
theorem or_halves (r x : Nat) (hr : r < 4294967296) (hx : x < 4294967296) : Go.bits .or .u64 ((r : Int) * 4294967296) (x : Int) = (r : Int) * 4294967296 + (x : Int) := by
 have h := b_or64 (r * 4294967296) x (by omega) (by omega)
 rw [Int.natCast_mul] at h
 rw [show ((4294967296 : Nat) : Int) = 4294967296 from rfl] at h
 rw [h]
 have e := Nat.shiftLeft_add_eq_or_of_lt (a := r) (b := x) (i := 32) (by omega)
 rw [Nat.shiftLeft_eq] at e
 rw [show r * 4294967296 = r * 2 ^ 32 from rfl, ← e]; omega
end Go.Proofs.Ytllocgmbjjoemaa.Nv
end
section
set_option linter.unusedVariables false
set_option linter.unusedSimpArgs false
namespace Go.Proofs.Ytllocgmbjjoemaa.Nv
open Go Go.RowKit Dg
theorem grown_set1 {w wr : World} {g j : Nat} {u : Value} (h : w.grownBy wr (some g)) : w.grownBy (wr.setCell ⟨g, j, none⟩ u) (some g) :=
 ⟨h.os, h.tape, h.output, by simpa using h.size, fun k hk hne => (Below.heap_setCell _ _ _ _ (fun e => hne (by rw [e]))).trans (h.block k hk hne)⟩
theorem grown_drew {w wr : World} {g : Nat} (h : w.grownBy wr (some g)) : w.grownBy wr.drew (some g) := ⟨h.os, h.tape, h.output, h.size, h.block⟩
theorem u64_q {q : Nat} (h : q < 4294967296) : IntKind.u64.wrap (q : Int) % 4294967296 = (q : Int) := by rw [u64_wrap _ (by omega)]; omega
set_option maxRecDepth 100000 in
set_option maxHeartbeats 3200000 in
theorem short_calls (base g c b : Nat) (l : List Nat) (w : World) (hp : Row w base g c l) (okl : ok l) (hl1 : l.length ≤ 1099511627776) (b0 : 0 < b) (bM : b < 4294967296) :
    Calls Try.prog 70 #[.slice (some ⟨g, 0, none⟩) l.length c, .int .u32 (b : Int)] w fun e w' => e = .returned (.int .u32 ((val l % b : Nat) : Int)) ∧
     ∃ o, Row w' base g c o ∧ o.length = l.length ∧ ok o ∧ val o = val l / b ∧ w.grownBy w' (some g) := by
 have HP := As.mk hp
 clear hp
 go_enter Try.func70, Try.ntmps70
 go_wp2
 go_loopg [5, 6] l.length (fun gk v5 v6 wr => ∃ (j r : Nat) (hi : List Nat), v5 = .int .u64 (r : Int) ∧ v6 = .int .i64 ((j : Int) - 1) ∧ As (j ≤ l.length ∧ j ≤ gk) ∧ As (Sh l b j r hi) ∧ As (Row wr base g c (l.take j ++ hi)) ∧ As (w.grownBy wr (some g)))
 case atStart => exact ⟨l.length, 0, [], rfl, rfl, ⟨by omega⟩, ⟨Sh.start b0⟩, ⟨by rw [List.take_length, List.append_nil]; exact HP.out⟩, ⟨World.grownBy.refl _ _⟩⟩
 case round =>
  clear HP
  obtain ⟨j, r, hi, rfl, rfl, J, S, G, W⟩ := hrel
  obtain ⟨jl, jg⟩ := J.out
  have rb := S.out.r1
  by_cases j0 : j = 0
  ·subst j0
   go_wp2
   go_ret
   obtain ⟨e1, e2⟩ := S.out.stop
   have G1 := G.out
   rw [List.take_zero, List.nil_append] at G1
   rw [← e2]
   exact ⟨rfl, hi, G1, by have := S.out.len; omega, S.out.ok, e1, W.out⟩
  ·obtain ⟨j, rfl⟩ : ∃ k, j = k + 1 := ⟨j - 1, by omega⟩
   have hj : j < l.length := by omega
   obtain ⟨x, hx⟩ : ∃ x, x = l[j] := ⟨_, rfl⟩
   have xb : x < 4294967296 := by rw [hx]; exact okl _ (List.getElem_mem hj)
   have jo : j < (l.take (j + 1) ++ hi).length := by rw [List.length_append, List.length_take]; omega
   obtain ⟨cj, fj⟩ := G.out.get jo
   have ej : (l.take (j + 1) ++ hi)[j]'jo = x := by rw [hx, List.getElem_append_left (by rw [List.length_take]; omega), List.getElem_take]
   rw [ej] at cj
   have HX := As.mk hx
   have dg1 := S.out.digit okl hj
   rw [← hx] at dg1
   have OH := As.mk ((or_halves r x (by omega) xb).trans (show (r : Int) * 4294967296 + (x : Int) = ((r * 4294967296 + x : Nat) : Int) by omega))
   have jj : ((j + 1 : Nat) : Int) - 1 = (j : Int) := by omega
   clear hx ej jo
   go_wp2
   go_region
   all_goals (try go_wp2)
   go_roundg j
   case measure => omega
   case rel =>
    have N := S.out.next okl hj
    rw [← HX.out] at N
    have e1 : (Go.bits .or .u64 ((r : Int) * 4294967296) (x : Int)).tmod (b : Int) = (((r * 4294967296 + x) % b : Nat) : Int) := by
     rw [OH.out, Int.tmod_eq_emod_of_nonneg (by omega)]; exact (Int.natCast_emod _ _).symm
    have e2 : IntKind.u64.wrap ((Go.bits .or .u64 ((r : Int) * 4294967296) (x : Int)).tdiv (b : Int)) % 4294967296 = (((r * 4294967296 + x) / b : Nat) : Int) := by
     rw [OH.out, Int.tdiv_eq_ediv_of_nonneg (by omega), ← Int.natCast_ediv]; exact u64_q dg1
    have G' := G.out.set j ((r * 4294967296 + x) / b)
    rw [set_at hj] at G'
    rw [e1, e2]
    exact ⟨j, _, _, rfl, rfl, ⟨by omega⟩, ⟨N⟩, ⟨by first | exact G' | exact G'.drew⟩, ⟨by first | exact grown_set1 W.out | exact grown_drew (grown_set1 W.out)⟩⟩
end Go.Proofs.Ytllocgmbjjoemaa.Nv
end
section
set_option linter.unusedVariables false
set_option linter.unusedSimpArgs false
namespace Go.Proofs.Ytllocgmbjjoemaa.Dg
set_option maxRecDepth 10000
structure UpS (l : List Nat) (n j c : Nat) (o : List Nat) : Prop where
 len : o.length = j
 ok : Dg.ok o
 c1 : c < 2 ^ n
 eq : val o + 4294967296 ^ j * c = val (l.take j) * 2 ^ n
theorem UpS.start (l : List Nat) (n : Nat) : UpS l n 0 0 [] := ⟨rfl, fun x hx => absurd hx (by simp), Nat.pow_pos (by omega), by simp [val]⟩
theorem p32 {n : Nat} (h : n < 32) : 2 ^ n ≤ 2147483648 ∧ 0 < 2 ^ n := ⟨(Nat.pow_le_pow_right (by omega) (show n ≤ 31 by omega) : 2 ^ n ≤ 2 ^ 31), Nat.pow_pos (by omega)⟩
theorem UpS.bound {l : List Nat} {n j c : Nat} {o : List Nat} (h : UpS l n j c o) (okl : Dg.ok l) (hn : n < 32) : c + at0 l j * 2 ^ n < 4294967296 * 2 ^ n ∧ at0 l j * 2 ^ n < 9223372036854775808 := by
 have x := at0_ok okl j
 have p := p32 hn
 have c1 := h.c1
 generalize 2 ^ n = P at *
 have h1 : at0 l j * P ≤ 4294967295 * P := Nat.mul_le_mul_right _ (by omega)
 omega
theorem UpS.next {l : List Nat} {n j c : Nat} {o : List Nat} (h : UpS l n j c o) (okl : Dg.ok l) (hn : n < 32) :
    UpS l n (j + 1) ((c + at0 l j * 2 ^ n) / 4294967296) (o ++ [(c + at0 l j * 2 ^ n) % 4294967296]) := by
 have b := (h.bound okl hn).1
 have e := h.eq
 refine ⟨by rw [List.length_append, h.len]; rfl, ok_snoc h.ok (Nat.mod_lt _ (by omega)), by omega, ?_⟩
 rw [val_snoc, h.len, val_take0, Nat.add_mul, ← e]
 generalize hS : c + at0 l j * 2 ^ n = S at *
 have d : 4294967296 ^ j * (S % 4294967296) + 4294967296 ^ (j + 1) * (S / 4294967296) = 4294967296 ^ j * S := by
  rw [Nat.pow_succ, Nat.mul_assoc, ← Nat.mul_add, Nat.mod_add_div]
 have f : 4294967296 ^ j * S = 4294967296 ^ j * c + 4294967296 ^ j * at0 l j * 2 ^ n := by rw [← hS, Nat.mul_add, Nat.mul_assoc]
 omega
theorem UpS.stop {l : List Nat} {n s c : Nat} {o : List Nat} (h : UpS l n s c o) (h1 : l.length ≤ s) (h3 : val l * 2 ^ n < 4294967296 ^ s) : val o = val l * 2 ^ n := by
 have e := h.eq
 rw [List.take_of_length_le h1] at e
 have c0 : c = 0 := by
  rcases Nat.eq_zero_or_pos c with c0 | c0
  ·exact c0
  ·have : 4294967296 ^ s * 1 ≤ 4294967296 ^ s * c := Nat.mul_le_mul_left _ c0
   omega
 rw [c0] at e; omega
structure DoS (l : List Nat) (n j : Nat) (o : List Nat) : Prop where
 len : o.length = j
 ok : Dg.ok o
 eq : val o = (val l / 2 ^ n) % 4294967296 ^ j
theorem DoS.start (l : List Nat) (n : Nat) : DoS l n 0 [] := ⟨rfl, fun x hx => absurd hx (by simp), by simp [val, Nat.mod_one]⟩
theorem val_drop {l : List Nat} (okl : Dg.ok l) (j : Nat) (hj : j ≤ l.length) : val (l.drop j) = val l / 4294967296 ^ j := by
 have h := val_split (l := l) j
 have lt := val_lt (ok_take okl j)
 rw [List.length_take, Nat.min_eq_left hj] at h lt
 rw [h, Nat.add_mul_div_left _ _ (Nat.pow_pos (by omega)), Nat.div_eq_of_lt lt, Nat.zero_add]
theorem val_drop_at {l : List Nat} {j : Nat} (hj : j < l.length) : val (l.drop j) = l[j] + 4294967296 * val (l.drop (j + 1)) := by
 rw [List.drop_eq_getElem_cons hj, val]
theorem DoS.next {l : List Nat} {n j : Nat} {o : List Nat} (h : DoS l n j o) (okl : Dg.ok l) (hn : n < 32) (hj : j < l.length) :
    DoS l n (j + 1) (o ++ [(l[j] + 4294967296 * at0 l (j + 1)) / 2 ^ n % 4294967296]) := by
 refine ⟨by rw [List.length_append, h.len]; rfl, ok_snoc h.ok (Nat.mod_lt _ (by omega)), ?_⟩
 rw [val_snoc, h.len, h.eq, Nat.mod_pow_succ]
 congr 2
 rw [Nat.div_div_eq_div_mul, Nat.mul_comm (2 ^ n), ← Nat.div_div_eq_div_mul, ← val_drop okl j (by omega), val_drop_at hj]
 have e : ∃ t, val (l.drop (j + 1)) = at0 l (j + 1) + 4294967296 * t := by
  by_cases hk : j + 1 < l.length
  ·exact ⟨_, by rw [val_drop_at hk, at0_lt hk]⟩
  ·exact ⟨0, by rw [List.drop_of_length_le (by omega), at0_ge (by omega)]; rfl⟩
 obtain ⟨t, e⟩ := e
 rw [e, Nat.mul_add, ← Nat.add_assoc]
 generalize l[j] + 4294967296 * at0 l (j + 1) = X
 obtain ⟨P, hP⟩ : ∃ P, 4294967296 = 2 ^ n * P := ⟨2 ^ (32 - n), by rw [← Nat.pow_add, show n + (32 - n) = 32 by omega]⟩
 have : 4294967296 * (4294967296 * t) = 2 ^ n * (4294967296 * (P * t)) := by
  conv => lhs; rw [← Nat.mul_assoc, Nat.mul_comm 4294967296 4294967296]
  rw [← Nat.mul_assoc (2 ^ n), Nat.mul_comm (2 ^ n) 4294967296, Nat.mul_assoc 4294967296 (2 ^ n), ← Nat.mul_assoc (2 ^ n), ← hP, Nat.mul_assoc]
 rw [this, Nat.add_mul_div_left _ _ (Nat.pow_pos (by omega)), Nat.add_mul_mod_self_left]
theorem DoS.stop {l : List Nat} {n : Nat} {o : List Nat} (h : DoS l n l.length o) (okl : Dg.ok l) : val o = val l / 2 ^ n := by
 rw [h.eq]
 exact Nat.mod_eq_of_lt (Nat.lt_of_le_of_lt (Nat.div_le_self _ _) (val_lt okl))
end Go.Proofs.Ytllocgmbjjoemaa.Dg
end
section
set_option linter.unusedVariables false
set_option linter.unusedSimpArgs false
namespace Go.Proofs.Ytllocgmbjjoemaa.Nv
open Go Go.RowKit Dg
theorem up_or (c x n : Nat) (hc : c < 2 ^ n) (hx : x < 4294967296) (hn : n < 32) : Go.bits .or .u64 (c : Int) (IntKind.u64.wrap ((x : Int) * 2 ^ n)) = ((c + x * 2 ^ n : Nat) : Int) := by
 have p := p32 hn
 have b : x * 2 ^ n ≤ 4294967295 * 2147483648 := Nat.mul_le_mul (by omega) p.1
 have e1 : (x : Int) * 2 ^ n = ((x * 2 ^ n : Nat) : Int) := by rw [Int.natCast_mul, Int.natCast_pow]; rfl
 rw [e1, u64_wrap _ (by omega), b_or64 _ _ (by omega) (by omega)]
 have e := Nat.shiftLeft_add_eq_or_of_lt (a := x) hc
 rw [Nat.shiftLeft_eq] at e
 rw [Nat.or_comm, ← e, Nat.add_comm]
theorem n_div (a : Nat) : ((a : Nat) : Int) / 4294967296 = ((a / 4294967296 : Nat) : Int) := by omega
theorem n_mod (a : Nat) : ((a : Nat) : Int) % 4294967296 = ((a % 4294967296 : Nat) : Int) := by omega
set_option maxRecDepth 100000 in
set_option maxHeartbeats 3200000 in
theorem up_calls (A : Option Addr) (k : Nat) (l : List Nat) (n s : Nat) (w : World) (hl : Rd w A l) (okl : ok l) (hc : l.length ≤ k) (hn : n < 32) (h1 : l.length ≤ s) (h2 : s ≤ 1000) (h3 : val l * 2 ^ n < 4294967296 ^ s) :
    Calls Try.prog 79 #[.slice A l.length k, .int .i64 (n : Int), .int .i64 (s : Int)] w fun e w' => ∃ o, e = .returned (.slice (some ⟨w.heap.size, 0, none⟩) s s) ∧
     Row w' w.heap.size w.heap.size s o ∧ o.length = s ∧ ok o ∧ val o = val l * 2 ^ n ∧ Below w.heap.size w w' := by
 have R1 := As.mk hl
 clear hl
 obtain ⟨i0, hi0, hz0, hz1, hz2⟩ := info_parts info_u32
 go_enter Try.func79, Try.ntmps79
 go_wp2_with (first
  | (at_make; refine wpList_make_lc _ rfl (.tmp 10) (.tmp 10) 56 rfl 92 i0 (.int .u32 0) Try.underlying56 hi0 hz0 .i64 .i64 _ _ s s rfl rfl rfl rfl (Nat.le_refl _) (by rw [hz2]; omega) (by unfold maxLen; omega) ?_; intro w2 h9 g2; have h9' := made_cells hz1 h9; have G2 := As.mk (Row.of_cells (w := w2) (g := w.heap.size) (c := s) (l := List.replicate s 0) (rest := []) (base := w.heap.size) (by omega) (by rw [List.append_nil]; exact h9') (by simp) (by omega)); have B2 := As.mk (made_below g2); clear h9 h9' g2))
 clear hi0 hz0 hz1 hz2
 go_loopg [8, 14] s (fun gk v8 v14 wr => ∃ (j cy : Nat) (o : List Nat), v8 = .int .u64 (cy : Int) ∧ v14 = .int .i64 (j : Int) ∧ As (j ≤ s ∧ s - j ≤ gk) ∧ As (UpS l n j cy o) ∧ As (Row wr w.heap.size w.heap.size s (o ++ (List.replicate s 0).drop j)) ∧ As (Below w.heap.size w wr))
 case atStart => exact ⟨0, 0, [], rfl, rfl, ⟨by omega⟩, ⟨UpS.start l n⟩, ⟨by rw [List.drop_zero, List.nil_append]; exact G2.out⟩, B2⟩
 case round =>
  clear G2 B2
  obtain ⟨j, cy, o, rfl, rfl, J, S, G, B⟩ := hrel
  obtain ⟨jl, jg⟩ := J.out
  have ol := S.out.len
  by_cases js : j < s
  ·have jo : j < (o ++ (List.replicate s 0).drop j).length := by rw [List.length_append, List.length_drop, List.length_replicate]; omega
   obtain ⟨cj, fj⟩ := G.out.get jo
   have el : (o ++ (List.replicate s 0).drop j).length = s := by rw [List.length_append, List.length_drop, List.length_replicate]; omega
   by_cases hj : j < l.length
   ·obtain ⟨ad, hA, cx⟩ := (R1.out.below B.out).get hj
    cases hA
    obtain ⟨x, hx⟩ : ∃ x, x = l[j] := ⟨_, rfl⟩
    have xb : x < 4294967296 := by rw [hx]; exact okl _ (List.getElem_mem hj)
    rw [← hx] at cx
    have HX := As.mk hx
    clear hx
    have N := S.out.next okl hn
    rw [at0_lt hj, ← HX.out] at N
    have OR := As.mk (up_or cy x n S.out.c1 xb hn)
    have NN := As.mk N
    clear N
    go_wp2
    go_roundg (s - (j + 1))
    case measure => omega
    case rel =>
     rw [OR.out, n_div, n_mod]
     exact ⟨j + 1, _, _, rfl, by simp, ⟨by omega⟩, NN, ⟨G.out.next ol (by rw [List.length_replicate]; exact js)⟩, ⟨B.out.setCell (Nat.le_refl _) _⟩⟩
   ·have N := S.out.next okl hn
    rw [at0_ge (by omega), Nat.zero_mul, Nat.add_zero] at N
    have NN := As.mk N
    clear N
    go_wp2
    go_roundg (s - (j + 1))
    case measure => omega
    case rel =>
     rw [n_div, n_mod]
     exact ⟨j + 1, _, _, rfl, by simp, ⟨by omega⟩, NN, ⟨G.out.next ol (by rw [List.length_replicate]; exact js)⟩, ⟨B.out.setCell (Nat.le_refl _) _⟩⟩
  ·have je : j = s := by omega
   subst je
   go_wp2
   go_ret
   have G' := G.out
   rw [List.drop_of_length_le (by rw [List.length_replicate]; omega), List.append_nil] at G'
   exact ⟨_, rfl, G', ol, S.out.ok, S.out.stop h1 h3, B.out⟩
end Go.Proofs.Ytllocgmbjjoemaa.Nv
end
section
set_option linter.unusedVariables false
set_option linter.unusedSimpArgs false
namespace Go.Proofs.Ytllocgmbjjoemaa.Nv
open Go Go.RowKit Dg
theorem blk1g {w w2 : World} {o1 : Obj} (g : (w.alloc o1).grownBy w2 none) : w2.heap[w.heap.size]? = some o1 ∧ Below w.heap.size w w2 := by
 have b1 : Below w.heap.size w (w.alloc o1) := (Below.refl _ w).alloc (Nat.le_refl _) o1
 have s1 : (w.alloc o1).heap.size = w.heap.size + 1 := by simp
 refine ⟨?_, b1.grown g (by omega) (by simp)⟩
 rw [g.block _ (by omega) (by simp)]; exact heap_alloc_new w o1
theorem n_shr (a n : Nat) : ((a : Nat) : Int) / 2 ^ n % 4294967296 = ((a / 2 ^ n % 4294967296 : Nat) : Int) := by rw [Int.natCast_emod, Int.natCast_ediv, Int.natCast_pow]; rfl
theorem down_or (x y n : Nat) (hx : x < 4294967296) (hy : y < 4294967296) : Go.bits .or .u64 (x : Int) ((y : Int) * 4294967296) = ((x + 4294967296 * y : Nat) : Int) := by
 have e1 : (y : Int) * 4294967296 = ((y * 4294967296 : Nat) : Int) := by omega
 rw [e1, b_or64 _ _ (by omega) (by omega)]
 have e := Nat.shiftLeft_add_eq_or_of_lt (a := y) (b := x) (i := 32) (by omega)
 rw [Nat.shiftLeft_eq] at e
 rw [Nat.or_comm, show y * 4294967296 = y * 2 ^ 32 from rfl, ← e]; omega
set_option maxRecDepth 100000 in
set_option maxHeartbeats 3200000 in
theorem down_calls (base g c : Nat) (l : List Nat) (n : Nat) (w : World) (hl : Row w base g c l) (okl : ok l) (hn : n < 32) (h2 : l.length ≤ 1000) :
    Calls Try.prog 81 #[.slice (some ⟨g, 0, none⟩) l.length c, .int .i64 (n : Int)] w fun e w' => ∃ v, e = .returned (.agg #[v]) ∧ Num w' v (val l / 2 ^ n) ∧ Below w.heap.size w w' := by
 have R1 := As.mk (hl.read (by omega))
 clear hl
 obtain ⟨i0, hi0, hz0, hz1, hz2⟩ := info_parts info_u32
 go_enter Try.func81, Try.ntmps81
 go_wp2_with (first
  | (at_make; refine wpList_make_lc _ rfl (.tmp 9) (.tmp 9) 56 rfl 92 i0 (.int .u32 0) Try.underlying56 hi0 hz0 .i64 .i64 _ _ l.length l.length rfl rfl rfl rfl (Nat.le_refl _) (by rw [hz2]; omega) (by unfold maxLen; omega) ?_; intro w2 h9 g2; obtain ⟨k1, b2⟩ := blk1g g2; have h9' := made_cells hz1 h9; rw [show ∀ o1 : Obj, (w.alloc o1).heap.size = w.heap.size + 1 from fun _ => by simp] at h9'; have G2 := As.mk (Row.of_cells (w := w2) (g := w.heap.size + 1) (c := l.length) (l := List.replicate l.length 0) (rest := []) (base := w.heap.size) (by omega) (by rw [List.append_nil]; exact h9') (by simp) (by omega)); have K1 := As.mk k1; have B2 := As.mk b2; clear h9 h9' g2 k1 b2))
 clear hi0 hz0 hz1 hz2
 go_loopg [13] l.length (fun gk v13 wr => ∃ (j : Nat) (o : List Nat), v13 = .int .i64 (j : Int) ∧ As (j ≤ l.length ∧ l.length - j ≤ gk) ∧ As (DoS l n j o) ∧ As (Row wr w.heap.size (w.heap.size + 1) l.length (o ++ (List.replicate l.length 0).drop j)) ∧ As (wr.heap[w.heap.size]? = some (.cells #[.slice none 0 0] 66 (0, 0))) ∧ As (Below w.heap.size w wr))
 case atStart => exact ⟨0, [], rfl, ⟨by omega⟩, ⟨DoS.start l n⟩, ⟨by rw [List.drop_zero, List.nil_append]; exact G2.out⟩, K1, B2⟩
 case round =>
  clear G2 K1 B2
  obtain ⟨j, o, rfl, J, S, G, K, B⟩ := hrel
  obtain ⟨jl, jg⟩ := J.out
  have ol := S.out.len
  have el : (o ++ (List.replicate l.length 0).drop j).length = l.length := by rw [List.length_append, List.length_drop, List.length_replicate]; omega
  by_cases hj : j < l.length
  ·have jo : j < (o ++ (List.replicate l.length 0).drop j).length := by omega
   obtain ⟨cj, fj⟩ := G.out.get jo
   obtain ⟨ad, hA, cx⟩ := (R1.out.below B.out).get hj
   cases hA
   obtain ⟨x, hx⟩ : ∃ x, x = l[j] := ⟨_, rfl⟩
   have xb : x < 4294967296 := by rw [hx]; exact okl _ (List.getElem_mem hj)
   rw [← hx] at cx
   have HX := As.mk hx
   have p := p32 hn
   have N := S.out.next okl hn hj
   rw [← hx] at N
   clear hx
   rw [Addr.add_lit, Nat.zero_add] at cx
   by_cases hk : j + 1 < l.length
   ·obtain ⟨ad, hA, cy⟩ := (R1.out.below B.out).get hk
    cases hA
    rw [Addr.add_lit, Nat.zero_add] at cy
    obtain ⟨y, hy⟩ : ∃ y, y = l[j + 1] := ⟨_, rfl⟩
    have yb : y < 4294967296 := by rw [hy]; exact okl _ (List.getElem_mem hk)
    rw [at0_lt hk, ← hy] at N
    rw [← hy] at cy
    have OR := As.mk (down_or x y n xb yb)
    have NN := As.mk N
    clear N hy
    go_wp2
    go_roundg (l.length - (j + 1))
    case measure => omega
    case rel =>
     rw [OR.out, n_shr]
     exact ⟨j + 1, _, by simp, ⟨by omega⟩, NN, ⟨G.out.next ol (by rw [List.length_replicate]; exact hj)⟩, ⟨(Below.heap_setCell _ _ _ _ (by show w.heap.size ≠ w.heap.size + 1; omega)).trans K.out⟩, ⟨B.out.setCell (by show w.heap.size ≤ w.heap.size + 1; omega) _⟩⟩
   ·rw [at0_ge (by omega), Nat.mul_zero, Nat.add_zero] at N
    have NN := As.mk N
    clear N
    go_wp2
    go_roundg (l.length - (j + 1))
    case measure => omega
    case rel =>
     rw [n_shr]
     exact ⟨j + 1, _, by simp, ⟨by omega⟩, NN, ⟨G.out.next ol (by rw [List.length_replicate]; exact hj)⟩, ⟨(Below.heap_setCell _ _ _ _ (by show w.heap.size ≠ w.heap.size + 1; omega)).trans K.out⟩, ⟨B.out.setCell (by show w.heap.size ≤ w.heap.size + 1; omega) _⟩⟩
  ·have je : j = l.length := by omega
   subst je
   have ev := S.out.stop okl
   have G' := G.out
   rw [List.drop_of_length_le (by rw [List.length_replicate]; omega), List.append_nil] at G'
   have CC := cut_calls (some ⟨w.heap.size + 1, 0, none⟩) l.length o wr (G'.read (by omega)) S.out.ok (by omega)
   rw [ol, ev] at CC
   have CO := As.mk CC
   have lt3 : w.heap.size < wr.heap.size := by have := G.out.lt; omega
   clear CC ev G'
   go_wp2_with (first
    | (go_at_call 55; refine CO.out.mono ?_; rintro e w5 ⟨v5, rfl, hn5, hb5⟩; obtain ⟨A5, c5, rfl, hc5, hr5⟩ := hn5; have R5 := As.mk hr5; have B5 := As.mk (B.out.trans (hb5.mono B.out.size)); have K5 := As.mk ((hb5.block _ lt3).trans K.out); have c5' := cell_of_one K5.out; have f5' := free_of_one K5.out; clear hr5 hb5))
   refine bodyPost_ret (ret_nat rfl w.heap.size (.slice A5 ((dg (val l / 2 ^ n)).length : Nat) c5) rfl (one_setCell K5.out)) rfl ?_
   exact ⟨_, rfl, ⟨A5, c5, rfl, hc5, R5.out.put K5.out (by simp) _⟩, B5.out.setCell (Nat.le_refl _) _⟩
end Go.Proofs.Ytllocgmbjjoemaa.Nv
end
section
set_option linter.unusedVariables false
set_option linter.unusedSimpArgs false
namespace Go.Proofs.Ytllocgmbjjoemaa.Dg
open Nv
set_option maxRecDepth 10000
structure AwS (lp lq : List Nat) (d j c b : Nat) (o : List Nat) : Prop where
 len : o.length = j
 ok : Dg.ok o
 c1 : c < 4294967296
 b1 : b ≤ 1
 z : lq.length < j → c = 0
 eq : val o + val (lq.take j) * d = val (lp.take j) + 4294967296 ^ j * (c + b)
theorem AwS.start (lp lq : List Nat) (d : Nat) : AwS lp lq d 0 0 0 [] := ⟨rfl, fun x hx => absurd hx (by simp), by omega, by omega, fun _ => rfl, by simp [val]⟩
theorem AwS.bound {lp lq : List Nat} {d j c b : Nat} {o : List Nat} (h : AwS lp lq d j c b o) (hq : Dg.ok lq) (hd : d < 4294967296) : at0 lq j * d ≤ 18446744065119617025 ∧ (c + at0 lq j * d) / 4294967296 < 4294967296 := by
 have x := at0_ok hq j
 have c1 := h.c1
 have : at0 lq j * d ≤ 4294967295 * 4294967295 := Nat.mul_le_mul (by omega) (by omega)
 omega
theorem AwS.next {lp lq : List Nat} {d j c b : Nat} {o : List Nat} (h : AwS lp lq d j c b o) (hp : Dg.ok lp) (hq : Dg.ok lq) (hd : d < 4294967296) :
    AwS lp lq d (j + 1) ((c + at0 lq j * d) / 4294967296) (brw (at0 lp j) ((c + at0 lq j * d) % 4294967296) b) (o ++ [dif (at0 lp j) ((c + at0 lq j * d) % 4294967296) b]) := by
 have x := at0_ok hp j
 have e := h.eq
 have bd := (h.bound hq hd).2
 obtain ⟨d1, d2, d3⟩ := dif_eq (x := at0 lp j) (y := (c + at0 lq j * d) % 4294967296) (b := b) x (Nat.mod_lt _ (by omega)) h.b1
 refine ⟨by rw [List.length_append, h.len]; rfl, ok_snoc h.ok d2, bd, d3, fun lt => ?_, ?_⟩
 ·rw [at0_ge (by omega)]
  have := h.c1
  omega
 ·rw [val_snoc, h.len, val_take0, val_take0, Nat.add_mul]
  generalize at0 lp j = X at *
  have f : 4294967296 ^ j * (at0 lq j * d) = 4294967296 ^ j * at0 lq j * d := (Nat.mul_assoc _ _ _).symm
  generalize hS : at0 lq j * d = S at *
  rw [← f]
  generalize dif X ((c + S) % 4294967296) b = D at *
  generalize brw X ((c + S) % 4294967296) b = R at *
  have g : 4294967296 ^ (j + 1) * ((c + S) / 4294967296 + R) = 4294967296 ^ j * (4294967296 * ((c + S) / 4294967296) + 4294967296 * R) := by
   rw [Nat.pow_succ, Nat.mul_assoc, Nat.mul_add]
  rw [g]
  have k : 4294967296 ^ j * (D + S) = 4294967296 ^ j * (X + (4294967296 * ((c + S) / 4294967296) + 4294967296 * R)) - 4294967296 ^ j * (c + b) := by
   rw [← Nat.mul_sub]
   congr 1
   omega
  have k2 : 4294967296 ^ j * (c + b) ≤ 4294967296 ^ j * (X + (4294967296 * ((c + S) / 4294967296) + 4294967296 * R)) := Nat.mul_le_mul_left _ (by omega)
  rw [Nat.mul_add] at k
  rw [Nat.mul_add (4294967296 ^ j) X] at k k2
  omega
theorem AwS.stop {lp lq : List Nat} {d c b : Nat} {o : List Nat} (h : AwS lp lq d lp.length c b o) (hl : lq.length < lp.length) : val o + val lq * d = val lp + 4294967296 ^ lp.length * b := by
 have e := h.eq
 rw [h.z hl, List.take_of_length_le (by omega), List.take_length, Nat.zero_add] at e
 exact e
structure Est (W V P v1 v0 x u0 d r : Nat) : Prop where
 hx : x = d * v1 + r
 r1 : r < 4294967296
 lt : P < (d + 1) * V
structure Two (W V P v1 v0 x u0 : Nat) : Prop where
 w0 : 0 < W
 hv : ∃ t, V = (v1 * 4294967296 + v0) * W + t ∧ t < W
 hp : ∃ t, P = (x * 4294967296 + u0) * W + t ∧ t < W
 hb : P < V * 4294967296
 g1 : 2147483648 ≤ v1
 l1 : v1 < 4294967296
 l0 : v0 < 4294967296
 l2 : u0 < 4294967296
theorem Two.x {W V P v1 v0 x u0 : Nat} (h : Two W V P v1 v0 x u0) : x ≤ v1 * 4294967296 + v0 := by
 obtain ⟨t, ev, tw⟩ := h.hv
 obtain ⟨s, ep, sw⟩ := h.hp
 rcases Nat.lt_or_ge (v1 * 4294967296 + v0) x with l | l
 ·have b := h.hb
  have : (v1 * 4294967296 + v0 + 1) * W ≤ x * W := Nat.mul_le_mul_right _ l
  rw [Nat.add_mul, Nat.one_mul] at this
  have e2 : (x * 4294967296 + u0) * W = x * W * 4294967296 + u0 * W := by rw [Nat.add_mul, Nat.mul_right_comm]
  rw [e2] at ep
  obtain ⟨A, hA⟩ : ∃ A, A = (v1 * 4294967296 + v0) * W := ⟨_, rfl⟩
  obtain ⟨X, hX⟩ : ∃ X, X = x * W := ⟨_, rfl⟩
  obtain ⟨U, hU⟩ : ∃ U, U = u0 * W := ⟨_, rfl⟩
  rw [← hA] at ev this
  rw [← hX, ← hU] at ep
  rw [← hX] at this
  clear hA hX hU e2
  omega
 ·exact l
theorem Est.start {W V P v1 v0 x u0 : Nat} (h : Two W V P v1 v0 x u0) : Est W V P v1 v0 x u0 (x / v1) (x % v1) := by
 have hv := h.g1
 have hb := h.l1
 have m := Nat.mod_lt x (show 0 < v1 by omega)
 refine ⟨by rw [Nat.mul_comm]; exact (Nat.div_add_mod _ _).symm, by omega, ?_⟩
 obtain ⟨t, ev, tw⟩ := h.hv
 obtain ⟨s, ep, sw⟩ := h.hp
 have hx : x + 1 ≤ (x / v1 + 1) * v1 := by
  have := Nat.div_add_mod x v1
  rw [Nat.add_mul, Nat.mul_comm (x / v1)]; omega
 have h1 : P < (x + 1) * 4294967296 * W := by
  have : (x * 4294967296 + u0 + 1) * W ≤ (x + 1) * 4294967296 * W := Nat.mul_le_mul_right _ (by have := h.l2; omega)
  rw [Nat.add_mul _ 1, Nat.one_mul] at this
  omega
 have h2 : (x + 1) * 4294967296 * W ≤ (x / v1 + 1) * v1 * 4294967296 * W := Nat.mul_le_mul_right _ (Nat.mul_le_mul_right _ hx)
 have h3 : (x / v1 + 1) * v1 * 4294967296 * W ≤ (x / v1 + 1) * V := by
  have e4 : (x / v1 + 1) * v1 * 4294967296 * W = (x / v1 + 1) * (v1 * 4294967296 * W) := by rw [Nat.mul_assoc (x / v1 + 1), Nat.mul_assoc (x / v1 + 1)]
  rw [e4]
  refine Nat.mul_le_mul_left _ ?_
  rw [ev, Nat.add_mul, Nat.add_assoc]
  exact Nat.le_add_right _ _
 exact Nat.lt_of_lt_of_le h1 (Nat.le_trans h2 h3)
theorem Est.top {W V P v1 v0 x u0 d r : Nat} (e : Est W V P v1 v0 x u0 d r) (h : Two W V P v1 v0 x u0) : d ≤ 4294967297 := by
 have hx := h.x
 have e1 := e.hx
 have g1 := h.g1
 have l0 := h.l0
 rcases Nat.lt_or_ge 4294967297 d with l | l
 ·have : 4294967298 * v1 ≤ d * v1 := Nat.mul_le_mul_right _ l
  omega
 ·exact l
theorem Est.big {W V P v1 v0 x u0 d r : Nat} (e : Est W V P v1 v0 x u0 d r) (h : Two W V P v1 v0 x u0) (hd : 4294967296 ≤ d) : d * V ≥ V * 4294967296 := by
 rw [Nat.mul_comm d]; exact Nat.mul_le_mul_left _ hd
theorem Est.less {W V P v1 v0 x u0 d r : Nat} (e : Est W V P v1 v0 x u0 d r) (h : Two W V P v1 v0 x u0) (hd : 4294967296 ≤ d ∨ d * v0 > r * 4294967296 + u0) : 0 < d ∧ x = (d - 1) * v1 + (r + v1) ∧ P < (d - 1 + 1) * V := by
 have hx := e.hx
 have d0 : 0 < d := by
  rcases Nat.eq_zero_or_pos d with z | z
  ·rw [z] at hd; rw [Nat.zero_mul] at hd; omega
  ·exact z
 obtain ⟨k, rfl⟩ : ∃ k, d = k + 1 := ⟨d - 1, by omega⟩
 rw [Nat.add_sub_cancel]
 refine ⟨d0, by rw [hx, Nat.add_mul]; omega, ?_⟩
 rcases hd with hd | hd
 ·have := e.big h hd
  have := h.hb
  omega
 ·obtain ⟨t, ev, tw⟩ := h.hv
  obtain ⟨s, ep, sw⟩ := h.hp
  have h1 : x * 4294967296 + u0 + 1 ≤ (k + 1) * (v1 * 4294967296 + v0) := by
   rw [Nat.mul_add, ← Nat.mul_assoc]
   rw [hx]
   generalize (k + 1) * v0 = A at *
   generalize (k + 1) * v1 = C at *
   omega
  have h2 : (x * 4294967296 + u0 + 1) * W ≤ (k + 1) * (v1 * 4294967296 + v0) * W := Nat.mul_le_mul_right _ h1
  have h3 : (k + 1) * V = (k + 1) * (v1 * 4294967296 + v0) * W + (k + 1) * t := by rw [ev, Nat.mul_add, Nat.mul_assoc]
  rw [Nat.add_mul _ 1, Nat.one_mul] at h2
  omega
theorem Est.next {W V P v1 v0 x u0 d r : Nat} (e : Est W V P v1 v0 x u0 d r) (h : Two W V P v1 v0 x u0) (hd : 4294967296 ≤ d ∨ d * v0 > r * 4294967296 + u0) (hr : r + v1 < 4294967296) : Est W V P v1 v0 x u0 (d - 1) (r + v1) := by
 obtain ⟨_, a, b⟩ := e.less h hd
 exact ⟨a, hr, b⟩
structure Got (V P d : Nat) : Prop where
 d1 : d < 4294967296
 le : P < (d + 1) * V
 ge : d * V < P + V
theorem got {W V P v1 v0 x u0 d r : Nat} (h : Two W V P v1 v0 x u0) (hx : x = d * v1 + r) (hP : P < (d + 1) * V) (hd : d < 4294967296) (le : d * v0 ≤ r * 4294967296 + u0) : Got V P d := by
 refine ⟨hd, hP, ?_⟩
 obtain ⟨t, ev, tw⟩ := h.hv
 obtain ⟨s, ep, sw⟩ := h.hp
 have h1 : d * (v1 * 4294967296 + v0) ≤ x * 4294967296 + u0 := by
  rw [Nat.mul_add, ← Nat.mul_assoc, hx]
  generalize d * v0 = A at *
  generalize d * v1 = C at *
  omega
 have h2 : d * (v1 * 4294967296 + v0) * W ≤ (x * 4294967296 + u0) * W := Nat.mul_le_mul_right _ h1
 have h3 : d * V = d * (v1 * 4294967296 + v0) * W + d * t := by rw [ev, Nat.mul_add, Nat.mul_assoc]
 have h4 : d * t ≤ 4294967295 * W := Nat.mul_le_mul (by omega) (by omega)
 have h5 : 4294967296 * W ≤ (v1 * 4294967296 + v0) * W := Nat.mul_le_mul_right _ (by have := h.g1; omega)
 have := h.w0
 omega
theorem Est.stop {W V P v1 v0 x u0 d r : Nat} (e : Est W V P v1 v0 x u0 d r) (h : Two W V P v1 v0 x u0) (hd : d < 4294967296) (le : d * v0 ≤ r * 4294967296 + u0) : Got V P d := got h e.hx e.lt hd le
theorem Est.over {W V P v1 v0 x u0 d r : Nat} (e : Est W V P v1 v0 x u0 d r) (h : Two W V P v1 v0 x u0) (hd : 4294967296 ≤ d ∨ d * v0 > r * 4294967296 + u0) (hr : 4294967296 ≤ r + v1) : Got V P (d - 1) := by
 obtain ⟨_, a, b⟩ := e.less h hd
 have hx := h.x
 have l0 := h.l0
 have d1 : d - 1 < 4294967296 := by
  rcases Nat.lt_or_ge (d - 1) 4294967296 with l | l
  ·exact l
  ·have : 4294967296 * v1 ≤ (d - 1) * v1 := Nat.mul_le_mul_right _ l
   omega
 refine got h a b d1 ?_
 have : (d - 1) * v0 ≤ 4294967295 * 4294967295 := Nat.mul_le_mul (by omega) (by omega)
 omega
end Go.Proofs.Ytllocgmbjjoemaa.Dg
end
section
set_option linter.unusedVariables false
set_option linter.unusedSimpArgs false
namespace Go.Proofs.Ytllocgmbjjoemaa.Nv
open Go Go.RowKit Dg
theorem int_zero (b : Nat) : ((b : Int) == 0) = decide (b = 0) := by rw [Bool.eq_iff_iff, beq_iff_eq, decide_eq_true_iff]; omega
set_option maxRecDepth 100000 in
set_option maxHeartbeats 1600000 in
theorem lz32_calls (x : Nat) (w : World) (h1 : x < 4294967296) : Calls Try.prog 78 #[.int .u32 (x : Int)] w fun e w' => e = .returned (.int .i64 ((32 - bl x : Nat) : Int)) ∧ w' = w := by
 have b32 : bl x ≤ 32 := bl_le.2 (by omega)
 go_enter Try.func78, Try.ntmps78
 go_wp2_with (first | (go_at_call 56; refine (len32_calls x _ h1).mono ?_; rintro e w2 ⟨rfl, rfl⟩))
 go_ret
 exact ⟨congrArg Ending.returned (congrArg (Value.int IntKind.i64) (by omega)), rfl⟩
set_option maxRecDepth 100000 in
set_option maxHeartbeats 3200000 in
theorem away_calls (base g c c' c'' j0 d : Nat) (A : Option Addr) (H p T lq : List Nat) (w : World) (hp : Row w base g c (H ++ (p ++ T))) (hH : H.length = j0) (hq : Rd w A lq) (hne : ∀ ad, A = some ad → 0 < lq.length → ad.block ≠ g)
    (okp : ok p) (okq : ok lq) (hl : lq.length < p.length) (hl1 : H.length + (p.length + T.length) ≤ 1000) (hd : d < 4294967296) (hc : p.length ≤ c') :
    Calls Try.prog 80 #[.slice (some ⟨g, j0, none⟩) p.length c', .slice A lq.length c'', .int .u32 (d : Int)] w fun e w' => ∃ (o : List Nat) (b : Nat), e = .returned (.bool (decide (b ≠ 0))) ∧ b ≤ 1 ∧
     Row w' base g c (H ++ (o ++ T)) ∧ o.length = p.length ∧ ok o ∧ val o + val lq * d = val p + 4294967296 ^ p.length * b ∧ w.grownBy w' (some g) := by
 have HP := As.mk hp
 have HQ := As.mk hq
 have NE := As.mk hne
 clear hp hq hne
 go_enter Try.func80, Try.ntmps80
 (go_wp2; repeat (go_step3; go_wp2))
 go_loopg [7, 8, 12] p.length (fun gk v7 v8 v12 wr => ∃ (j cy b : Nat) (o : List Nat), v7 = .int .u64 (cy : Int) ∧ v8 = .int .u32 (b : Int) ∧ v12 = .int .i64 (j : Int) ∧ As (j ≤ p.length ∧ p.length - j ≤ gk) ∧ As (AwS p lq d j cy b o) ∧ As (Row wr base g c ((H ++ o) ++ (H ++ (p ++ T)).drop (j0 + j))) ∧ As (w.grownBy wr (some g)) ∧ As (Rd wr A lq))
 case atStart => exact ⟨0, 0, 0, [], rfl, rfl, rfl, ⟨by omega⟩, ⟨AwS.start _ _ _⟩, ⟨by rw [List.append_nil, Nat.add_zero, List.drop_left' hH]; exact HP.out⟩, ⟨World.grownBy.refl _ _⟩, HQ⟩
 case round =>
  clear HP HQ
  obtain ⟨j, cy, b, o, rfl, rfl, rfl, J, S, G, W, Q⟩ := hrel
  obtain ⟨jl, jg⟩ := J.out
  have b1 := S.out.b1
  have cyb := S.out.c1
  have ol : (H ++ o).length = j0 + j := by rw [List.length_append, hH, S.out.len]
  have tl : (H ++ (p ++ T)).length = j0 + (p.length + T.length) := by rw [List.length_append, List.length_append, hH]
  by_cases hj : j < p.length
  ·have jt : j0 + j < (H ++ (p ++ T)).length := by omega
   have jo : j0 + j < ((H ++ o) ++ (H ++ (p ++ T)).drop (j0 + j)).length := by rw [List.length_append, List.length_drop]; omega
   obtain ⟨x, hx⟩ : ∃ x, x = at0 p j := ⟨_, rfl⟩
   have xb : x < 4294967296 := by rw [hx]; exact at0_ok okp j
   obtain ⟨cj, fj⟩ := G.out.get jo
   have ej : ((H ++ o) ++ (H ++ (p ++ T)).drop (j0 + j))[j0 + j]'jo = x := by
    rw [hx, at0_lt hj, List.getElem_append_right (by omega)]
    simp only [ol, Nat.sub_self, List.getElem_drop, Nat.add_zero]
    rw [List.getElem_append_right (by omega)]
    simp only [hH, Nat.add_sub_cancel_left]
    rw [List.getElem_append_left hj]
   rw [ej] at cj
   have HX := As.mk hx
   clear hx ej
   obtain ⟨y, hy⟩ : ∃ y, y = at0 lq j := ⟨_, rfl⟩
   have yb : y < 4294967296 := by rw [hy]; exact at0_ok okq j
   have bd := S.out.bound okq hd
   have N := S.out.next okp okq hd
   rw [← hy] at bd N
   rw [← HX.out] at N
   have NN := As.mk N
   have HY := As.mk hy
   have gn := G.out.next (x := dif x ((cy + y * d) % 4294967296) b) ol jt
   rw [List.append_assoc H o] at gn
   have GN := As.mk gn
   clear N gn
   by_cases hq : j < lq.length
   ·obtain ⟨ad, hA, cy'⟩ := Q.out.get hq
    have ey : lq[j] = y := by rw [hy, at0_lt hq]
    rw [ey] at cy'
    cases hA
    clear hy ey
    have xy : (y : Int) * (d : Int) = ((y * d : Nat) : Int) := (Int.natCast_mul _ _).symm
    have xy0 : 0 ≤ (y : Int) * (d : Int) := by rw [xy]; omega
    have xy1 : (y : Int) * (d : Int) ≤ 18446744065119617025 := by rw [xy]; omega
    have sb : ((cy : Int) + (y : Int) * (d : Int)) % 4294967296 = (((cy + y * d) % 4294967296 : Nat) : Int) := by rw [xy]; omega
    have sd : ((cy : Int) + (y : Int) * (d : Int)) / 4294967296 = (((cy + y * d) / 4294967296 : Nat) : Int) := by rw [xy]; omega
    have mb : (cy + y * d) % 4294967296 < 4294967296 := Nat.mod_lt _ (by omega)
    have SB := As.mk sb
    have SD := As.mk sd
    clear xy bd sb sd
    obtain ⟨z, hz⟩ : ∃ z, z = (cy + y * d) % 4294967296 := ⟨_, rfl⟩
    rw [← hz] at NN GN SB mb
    clear hz
    go_wp2_with (first | (rw [SB.out]; go_at_call 77; refine (sub32_calls x z b _ xb mb b1).mono ?_; rintro e w2 ⟨rfl, rfl⟩))
    go_roundg (p.length - (j + 1))
    case measure => omega
    case rel =>
     rw [SD.out]
     exact ⟨j + 1, _, _, _, rfl, rfl, by simp, ⟨by omega⟩, NN, GN, ⟨grown_set W.out⟩, ⟨Q.out.set NE.out _ _⟩⟩
   ·have y0 : y = 0 := by rw [hy, at0_ge (by omega)]
    have N := NN.out
    have gn := GN.out
    rw [y0, Nat.zero_mul, Nat.add_zero cy, Nat.mod_eq_of_lt cyb] at N gn
    clear NN GN HY hy bd y0
    have NN := As.mk N
    have GN := As.mk gn
    clear N gn
    go_wp2_with (first | (go_at_call 77; refine (sub32_calls x cy b _ xb cyb b1).mono ?_; rintro e w2 ⟨rfl, rfl⟩))
    go_roundg (p.length - (j + 1))
    case measure => omega
    case rel =>
     rw [n_div]
     exact ⟨j + 1, _, _, _, rfl, rfl, by simp, ⟨by omega⟩, NN, GN, ⟨grown_set W.out⟩, ⟨Q.out.set NE.out _ _⟩⟩
  ·have je : j = p.length := by omega
   subst je
   have G' := G.out
   rw [← List.drop_drop, List.drop_left' hH, List.drop_left' rfl, List.append_assoc] at G'
   have GE := As.mk G'
   clear G'
   go_wp2
   go_ret
   exact ⟨o, b, congrArg Ending.returned (congrArg Value.bool (by simp [bne, int_zero b])), b1, GE.out, S.out.len, S.out.ok, S.out.stop hl, W.out⟩
end Go.Proofs.Ytllocgmbjjoemaa.Nv
end
section
set_option linter.unusedVariables false
set_option linter.unusedSimpArgs false
namespace Go.Proofs.Ytllocgmbjjoemaa.Dg
set_option maxRecDepth 10000
structure Nrm (vv : List Nat) : Prop where
 okv : ok vv
 two : 2 ≤ vv.length
 top : 2147483648 ≤ at0 vv (vv.length - 1)
structure LoS (vv : List Nat) (U m t : Nat) (u hi : List Nat) : Prop where
 lu : u.length = m + vv.length
 oku : ok u
 lh : hi.length + t = m
 okh : ok hi
 rem : val (u.drop t) < val vv
 eq : val u + 4294967296 ^ t * (val hi * val vv) = U
theorem pB (k : Nat) : 0 < 4294967296 ^ k := Nat.pow_pos (by omega)
theorem top_two {l : List Nat} {k : Nat} (h : l.length = k + 2) : val l = (at0 l (k + 1) * 4294967296 + at0 l k) * 4294967296 ^ k + val (l.take k) := by
 have e1 := val_take0 l k
 have e2 := val_take0 l (k + 1)
 rw [List.take_of_length_le (by omega)] at e2
 rw [e2, e1, Nat.pow_succ, Nat.add_mul, Nat.mul_comm (at0 l k)]
 have : at0 l (k + 1) * 4294967296 * 4294967296 ^ k = 4294967296 ^ k * 4294967296 * at0 l (k + 1) := by
  rw [Nat.mul_comm (4294967296 ^ k), Nat.mul_comm (4294967296 * 4294967296 ^ k), Nat.mul_assoc]
 rw [this]; omega
theorem top_three {l : List Nat} {k : Nat} (h : l.length = k + 3) : val l = ((at0 l (k + 2) * 4294967296 + at0 l (k + 1)) * 4294967296 + at0 l k) * 4294967296 ^ k + val (l.take k) := by
 have e1 := val_take0 l k
 have e2 := val_take0 l (k + 1)
 have e3 := val_take0 l (k + 2)
 rw [List.take_of_length_le (show l.length ≤ k + 2 + 1 by omega)] at e3
 rw [e3, e2, e1, Nat.add_mul, Nat.add_mul (at0 l (k + 2) * 4294967296), Nat.add_mul, Nat.mul_comm (at0 l k)]
 have h1 : at0 l (k + 2) * 4294967296 * 4294967296 * 4294967296 ^ k = 4294967296 ^ (k + 2) * at0 l (k + 2) := by
  rw [Nat.pow_succ, Nat.pow_succ, Nat.mul_comm _ (at0 l (k + 2)), Nat.mul_assoc, Nat.mul_assoc, Nat.mul_comm (4294967296 ^ k * 4294967296), Nat.mul_comm (4294967296 ^ k)]
 have h2 : at0 l (k + 1) * 4294967296 * 4294967296 ^ k = 4294967296 ^ (k + 1) * at0 l (k + 1) := by
  rw [Nat.pow_succ, Nat.mul_comm _ (at0 l (k + 1)), Nat.mul_assoc, Nat.mul_comm (4294967296 ^ k)]
 rw [h1, h2]; omega
theorem LoS.tail {vv : List Nat} {U m j : Nat} {u hi : List Nat} (h : LoS vv U m (j + 1) u hi) (hn : Nrm vv) : val (u.drop (j + vv.length + 1)) = 0 := by
 have r := h.rem
 have lt := val_lt hn.okv
 have len := h.lh
 have lu := h.lu
 have e := val_drop (ok_drop h.oku (j + 1)) vv.length (by rw [List.length_drop]; omega)
 rw [List.drop_drop] at e
 rw [show j + vv.length + 1 = j + 1 + vv.length by omega, e]
 exact Nat.div_eq_of_lt (by omega)
theorem at0_part {u : List Nat} {j k i : Nat} (hi : i < k) : at0 ((u.drop j).take k) i = at0 u (j + i) := by
 simp only [at0, List.getD_eq_getElem?_getD]
 rw [List.getElem?_take_of_lt hi, List.getElem?_drop]
theorem LoS.part {vv : List Nat} {U m j : Nat} {u hi : List Nat} (h : LoS vv U m (j + 1) u hi) (hn : Nrm vv) : val (u.drop j) = val ((u.drop j).take (vv.length + 1)) ∧ val u = val (u.take j) + 4294967296 ^ j * val ((u.drop j).take (vv.length + 1)) ∧ ((u.drop j).take (vv.length + 1)).length = vv.length + 1 ∧ (u.take j).length = j ∧ u = u.take j ++ ((u.drop j).take (vv.length + 1) ++ u.drop (j + vv.length + 1)) := by
 have t := h.tail hn
 have len := h.lh
 have lu := h.lu
 have l2 : ((u.drop j).take (vv.length + 1)).length = vv.length + 1 := by rw [List.length_take, List.length_drop]; omega
 have l1 : (u.take j).length = j := by rw [List.length_take]; omega
 have e := val_split (l := u.drop j) (vv.length + 1)
 rw [List.drop_drop, ← Nat.add_assoc, t, Nat.mul_zero, Nat.add_zero] at e
 refine ⟨e, ?_, l2, l1, ?_⟩
 ·rw [← e, val_split (l := u) j, l1]
 ·have a := List.take_append_drop (vv.length + 1) (u.drop j)
  rw [List.drop_drop, ← Nat.add_assoc] at a
  rw [a, List.take_append_drop]
theorem LoS.two {vv : List Nat} {U m j : Nat} {u hi : List Nat} (h : LoS vv U m (j + 1) u hi) (hn : Nrm vv) :
    Two (4294967296 ^ (vv.length - 2)) (val vv) (val ((u.drop j).take (vv.length + 1))) (at0 vv (vv.length - 1)) (at0 vv (vv.length - 2))
     (at0 u (j + vv.length) * 4294967296 + at0 u (j + vv.length - 1)) (at0 u (j + vv.length - 2)) := by
 obtain ⟨p1, p2, p3, p4, p5⟩ := h.part hn
 obtain ⟨k, hk⟩ : ∃ k, vv.length = k + 2 := ⟨vv.length - 2, by have := hn.two; omega⟩
 have len := h.lh
 have lu := h.lu
 have e2 := top_two hk
 have e3 := top_three (l := (u.drop j).take (vv.length + 1)) (k := k) (by rw [p3, hk])
 have okp : ok ((u.drop j).take (vv.length + 1)) := ok_take (ok_drop h.oku j) _
 rw [at0_part (show k + 2 < vv.length + 1 by omega), at0_part (show k + 1 < vv.length + 1 by omega), at0_part (show k < vv.length + 1 by omega)] at e3
 rw [show vv.length - 2 = k by omega, show vv.length - 1 = k + 1 by omega, show j + vv.length = j + (k + 2) by omega, show j + (k + 2) - 1 = j + (k + 1) by omega, show j + (k + 2) - 2 = j + k by omega]
 have d := hn.top
 rw [show vv.length - 1 = k + 1 by omega] at d
 refine ⟨pB k, ⟨_, e2, ?_⟩, ⟨_, e3, ?_⟩, ?_, d, at0_ok hn.okv _, at0_ok hn.okv _, at0_ok h.oku _⟩
 ·have := val_lt (ok_take hn.okv k)
  rwa [List.length_take, Nat.min_eq_left (by omega)] at this
 ·have := val_lt (ok_take okp k)
  rwa [List.length_take, p3, Nat.min_eq_left (by omega)] at this
 ·rw [← p1, val_drop_at (show j < u.length by omega)]
  have r := h.rem
  have x := h.oku _ (List.getElem_mem (show j < u.length by omega))
  omega
theorem LoS.next {vv : List Nat} {U m j q : Nat} {u hi o : List Nat} (h : LoS vv U m (j + 1) u hi) (hn : Nrm vv) (lo : o.length = vv.length + 1) (oko : ok o) (hq : q < 4294967296) (lt : val o < val vv)
    (e : val o + q * val vv = val ((u.drop j).take (vv.length + 1))) : LoS vv U m j (u.take j ++ (o ++ u.drop (j + vv.length + 1))) (q :: hi) := by
 obtain ⟨p1, p2, p3, p4, p5⟩ := h.part hn
 have t := h.tail hn
 have len := h.lh
 have lu := h.lu
 have eq := h.eq
 refine ⟨by simp only [List.length_append, List.length_drop, p4, lo]; omega, ?_, by simp only [List.length_cons]; omega, ?_, ?_, ?_⟩
 ·intro x hx
  rcases List.mem_append.1 hx with a | a
  ·exact ok_take h.oku _ x a
  ·rcases List.mem_append.1 a with a | a
   ·exact oko x a
   ·exact ok_drop h.oku _ x a
 ·intro x hx
  rcases List.mem_cons.1 hx with a | a
  ·omega
  ·exact h.okh x a
 ·rw [List.drop_left' p4, val_append, t, Nat.mul_zero, Nat.add_zero]; exact lt
 ·rw [val_append, val_append, t, Nat.mul_zero, Nat.add_zero, p4, val]
  rw [p2, ← e] at eq
  rw [← eq, Nat.pow_succ, Nat.add_mul, Nat.mul_add, Nat.mul_add]
  have : 4294967296 ^ j * (4294967296 * val hi * val vv) = 4294967296 ^ j * 4294967296 * (val hi * val vv) := by rw [Nat.mul_assoc, Nat.mul_assoc]
  rw [this]; omega
theorem LoS.stop {vv : List Nat} {U m : Nat} {u hi : List Nat} (h : LoS vv U m 0 u hi) : val hi = U / val vv ∧ val u = U % val vv := by
 have e := h.eq
 have r := h.rem
 rw [List.drop_zero] at r
 rw [Nat.pow_zero, Nat.one_mul] at e
 have v0 : 0 < val vv := by omega
 rw [← e]
 constructor
 ·rw [Nat.add_mul_div_right _ _ v0, Nat.div_eq_of_lt r, Nat.zero_add]
 ·rw [Nat.add_mul_mod_self_right, Nat.mod_eq_of_lt r]
theorem back {V P d o Q : Nat} (g : Got V P d) (hQ : o < Q) (e : o + V * d = P + Q) : 0 < d ∧ P < d * V ∧ ∀ o2 c, o2 < Q → c ≤ 1 → o2 + Q * c = o + V → o2 < V ∧ o2 + (d - 1) * V = P := by
 have ge := g.ge
 have lt : P < d * V := by rw [Nat.mul_comm d]; omega
 have d0 : 0 < d := by
  rcases Nat.eq_zero_or_pos d with z | z
  ·rw [z, Nat.zero_mul] at lt; omega
  ·exact z
 obtain ⟨k, rfl⟩ : ∃ k, d = k + 1 := ⟨d - 1, by omega⟩
 refine ⟨d0, lt, fun o2 c h2 h1 h3 => ?_⟩
 rw [Nat.mul_comm] at e
 rw [Nat.add_mul, Nat.one_mul] at *
 rw [Nat.add_sub_cancel]
 rcases (show c = 0 ∨ c = 1 by omega) with rfl | rfl
 ·omega
 ·omega
theorem fore {V P d o : Nat} (g : Got V P d) (e : o + V * d = P) : o < V ∧ o + d * V = P := by
 have lt := g.le
 rw [Nat.add_mul, Nat.one_mul] at lt
 rw [Nat.mul_comm] at e
 omega
theorem set_out {j q : Nat} {hi : List Nat} : (List.replicate (j + 1) 0 ++ hi).set j q = List.replicate j 0 ++ q :: hi := by
 rw [List.replicate_succ', List.append_assoc, List.set_append_right _ _ (by simp)]; simp
theorem norm {a b : Nat} (hb : 2 ≤ (dg b).length) (hl : (dg b).length ≤ (dg a).length) {x s : Nat} (hx : x = (dg b)[(dg b).length - 1]'(by omega)) (hs : s = 32 - bl x) :
    s < 32 ∧ b * 2 ^ s < 4294967296 ^ (dg b).length ∧ a * 2 ^ s < 4294967296 ^ ((dg a).length + 1) ∧
     (∀ vv, ok vv → vv.length = (dg b).length → val vv = b * 2 ^ s → Nrm vv ∧ ∀ u, ok u → u.length = (dg a).length + 1 → val u = a * 2 ^ s → LoS vv (a * 2 ^ s) ((dg a).length + 1 - (dg b).length) ((dg a).length + 1 - (dg b).length) u []) := by
 have e := bl_dg (n := b) (by omega)
 rw [← hx] at e
 have x0 : x ≠ 0 := by
  rw [hx]
  have := last_ne (n := b) (by intro h; rw [h] at hb; simp at hb)
  rwa [List.getLast_eq_getElem] at this
 have xb : x < 2 ^ 32 := by rw [hx]; exact dg_ok' b _ (List.getElem_mem _)
 have l32 := bl_le.2 xb
 have l0 : 0 < bl x := Nat.pos_of_ne_zero (fun h => x0 (bl_zero.1 h))
 have p := p32 (n := s) (by omega)
 obtain ⟨k, hk⟩ : ∃ k, (dg b).length = k + 1 := ⟨(dg b).length - 1, by omega⟩
 have b0 : b ≠ 0 := by
  intro h
  rw [h, dg_zero] at hb
  simp at hb
 have h1 : b * 2 ^ s < 4294967296 ^ (dg b).length := by
  have : b * 2 ^ s < 2 ^ bl b * 2 ^ s := Nat.mul_lt_mul_of_pos_right (bl_lt b) p.2
  rw [← Nat.pow_add, show bl b + s = 32 * (dg b).length by omega, Nat.pow_mul] at this
  exact this
 have h2 : 2147483648 * 4294967296 ^ k ≤ b * 2 ^ s := by
  have : 2 ^ (bl b - 1) * 2 ^ s ≤ b * 2 ^ s := Nat.mul_le_mul_right _ (bl_ge b0)
  rw [← Nat.pow_add, show bl b - 1 + s = 31 + 32 * k by omega, Nat.pow_add, Nat.pow_mul] at this
  exact this
 have h3 : a * 2 ^ s < 4294967296 ^ (dg a).length * 2147483648 := by
  have := val_lt (dg_ok' a)
  rw [val_dg'] at this
  exact Nat.lt_of_lt_of_le (Nat.mul_lt_mul_of_pos_right this p.2) (Nat.mul_le_mul_left _ p.1)
 refine ⟨by omega, h1, ?_, fun vv okv lv ev => ?_⟩
 ·rw [Nat.pow_succ]
  exact Nat.lt_of_lt_of_le h3 (Nat.mul_le_mul_left _ (by omega))
 ·have tp := val_take0 vv k
  rw [List.take_of_length_le (by omega)] at tp
  have tl := val_lt (ok_take okv k)
  rw [List.length_take, Nat.min_eq_left (by omega)] at tl
  refine ⟨⟨okv, by omega, ?_⟩, fun u oku lu eu => ?_⟩
  ·rw [lv, hk, Nat.add_sub_cancel]
   rcases Nat.lt_or_ge (at0 vv k) 2147483648 with l | l
   ·have : (at0 vv k + 1) * 4294967296 ^ k ≤ 2147483648 * 4294967296 ^ k := Nat.mul_le_mul_right _ l
    rw [Nat.add_mul, Nat.one_mul, Nat.mul_comm (at0 vv k)] at this
    omega
   ·exact l
  ·refine ⟨by omega, oku, by simp, fun x hx => absurd hx (by simp), ?_, by simp [val, eu]⟩
   rw [val_drop oku _ (by omega), eu, ev, Nat.div_lt_iff_lt_mul (pB _)]
   refine Nat.lt_of_lt_of_le h3 ?_
   have h4 : 2147483648 * 4294967296 ^ k * 4294967296 ^ ((dg a).length + 1 - (dg b).length) ≤ b * 2 ^ s * 4294967296 ^ ((dg a).length + 1 - (dg b).length) := Nat.mul_le_mul_right _ h2
   rw [Nat.mul_assoc, ← Nat.pow_add, show k + ((dg a).length + 1 - (dg b).length) = (dg a).length by omega, Nat.mul_comm] at h4
   exact h4
end Go.Proofs.Ytllocgmbjjoemaa.Dg
end
section
set_option linter.unusedVariables false
set_option linter.unusedSimpArgs false
namespace Go.Proofs.Ytllocgmbjjoemaa.Nv
open Go Go.RowKit Dg
theorem blk4a (w : World) (o1 o2 o3 o4 : Obj) : ∀ w0, w0 = (((w.alloc o1).alloc o2).alloc o3).alloc o4 → w0.heap[w.heap.size]? = some o1 ∧ w0.heap[w.heap.size + 1]? = some o2 ∧ w0.heap[w.heap.size + 1 + 1]? = some o3 ∧ w0.heap[w.heap.size + 1 + 1 + 1]? = some o4 ∧ w0.heap.size = w.heap.size + 1 + 1 + 1 + 1 ∧ Below w.heap.size w w0 := by
 intro w0 e
 obtain ⟨k1, k2, k3, b⟩ := blk3 (w := w) (o1 := o1) (o2 := o2) (o3 := o3) (World.grownBy.refl _ none)
 have s3 : (((w.alloc o1).alloc o2).alloc o3).heap.size = w.heap.size + 1 + 1 + 1 := by simp
 have h4 := heap_alloc_new (((w.alloc o1).alloc o2).alloc o3) o4
 rw [s3] at h4
 subst e
 refine ⟨?_, ?_, ?_, h4, by simp, b.alloc (by omega) o4⟩
 ·rw [Below.heap_alloc _ _ _ (by omega)]; exact k1
 ·rw [Below.heap_alloc _ _ _ (by omega)]; exact k2
 ·rw [Below.heap_alloc _ _ _ (by omega)]; exact k3
theorem ret_two {fn : Func} {p q : Tmp} (h : fn.results = #[.cell p 66, .cell q 66]) {tmps : Array Value} {w : World} (g1 g2 : Nat) (v u : Value) (hp : tmps.getD p undef = .pointer (some ⟨g1, 0, none⟩)) (hq : tmps.getD q undef = .pointer (some ⟨g2, 0, none⟩)) (hg1 : w.heap[g1]? = some (.cells #[v] 66 (0, 0))) (hg2 : w.heap[g2]? = some (.cells #[u] 66 (0, 0))) :
    (results fn tmps).run Try.prog w = .ok (.tuple #[.agg #[v], .agg #[u]]) w := by
 have hp' : tmps[p]?.getD undef = .pointer (some ⟨g1, 0, none⟩) := by simpa using hp
 have hq' : tmps[q]?.getD undef = .pointer (some ⟨g2, 0, none⟩) := by simpa using hq
 simp [results, h, hp', hq', asAddr, run_loadVar_row w g1 66 66 #[v] (0, 0) _ hg1 Try.underlying66 rfl (by kernel_rfl), run_loadVar_row w g2 66 66 #[u] (0, 0) _ hg2 Try.underlying66 rfl (by kernel_rfl)]
theorem mid_set {H o2 o T : List Nat} {j i x : Nat} (hH : H.length = j) (h2 : o2.length = i) (hi : i < o.length) : (H ++ ((o2 ++ o.drop i) ++ T)).set (j + i) x = H ++ (((o2 ++ [x]) ++ o.drop (i + 1)) ++ T) := by
 rw [List.set_append_right _ _ (by omega), hH, Nat.add_sub_cancel_left, List.set_append_left _ _ (by rw [List.length_append, List.length_drop]; omega), List.set_append_right _ _ (by omega), h2, Nat.sub_self, List.drop_eq_getElem_cons hi, List.set_cons_zero]; simp
theorem mid_get {H o2 o T : List Nat} {j i : Nat} (hH : H.length = j) (h2 : o2.length = i) (hi : i < o.length) (h : j + i < (H ++ ((o2 ++ o.drop i) ++ T)).length) : (H ++ ((o2 ++ o.drop i) ++ T))[j + i]'h = o[i] := by
 rw [List.getElem_append_right (by omega)]
 simp only [hH, Nat.add_sub_cancel_left]
 rw [List.getElem_append_left (by rw [List.length_append, List.length_drop]; omega), List.getElem_append_right (by omega)]
 simp [h2]
theorem Rd.kept {w w' : World} {A : Option Addr} {l : List Nat} {r : Nat} (h : Rd w A l) (hg : w.grownBy w' (some r)) (ne : ∀ ad, A = some ad → 0 < l.length → ad.block ≠ r) : Rd w' A l := ⟨h.len, fun hl => by
 obtain ⟨ad, e, hc⟩ := h.at_ hl
 refine ⟨ad, e, fun j x hj => ?_⟩
 have c := hc j x hj
 have lt := World.block_lt_of_cell? w _ c
 rw [World.cell?_of_block (hg.block _ lt (by rw [add_block]; intro e2; exact ne ad e hl (Option.some.inj e2)))]
 exact c⟩
theorem Row.mono {w : World} {base base' g c : Nat} {l : List Nat} (h : Row w base g c l) (hb : base' ≤ base) : Row w base' g c l := by
 refine ⟨h.1, ?_⟩
 rcases h.2 with h2 | ⟨g', c', cur, e, hb', rest⟩
 ·exact .inl h2
 ·exact .inr ⟨g', c', cur, e, Nat.le_trans hb hb', rest⟩
structure LM (w wr : World) (gv gu gq m : Nat) (vv u o : List Nat) : Prop where
 rv : Rd wr (some ⟨gv, 0, none⟩) vv
 ru : Row wr w.heap.size gu u.length u
 ro : Row wr w.heap.size gq m o
 k3 : wr.heap[w.heap.size + 1 + 1]? = some (.cells #[.slice none 0 0] 66 (0, 0))
 k4 : wr.heap[w.heap.size + 1 + 1 + 1]? = some (.cells #[.slice none 0 0] 66 (0, 0))
 bw : Below w.heap.size w wr
 n1 : gv ≠ gu
 n2 : gv ≠ gq
 n3 : gu ≠ gq
 lt : w.heap.size + 1 + 1 + 1 < gv ∧ w.heap.size + 1 + 1 + 1 < gu ∧ w.heap.size + 1 + 1 + 1 < gq
theorem LM.drewN {w wr : World} {gv gu gq m : Nat} {vv u o : List Nat} (h : LM w wr gv gu gq m vv u o) (n : Nat) : LM w (wr.drewN n) gv gu gq m vv u o :=
 ⟨h.rv.drewN n, h.ru.below (drewN_below (Below.refl _ _) n), h.ro.below (drewN_below (Below.refl _ _) n), h.k3, h.k4, drewN_below h.bw n, h.n1, h.n2, h.n3, h.lt⟩
theorem LM.drew {w wr : World} {gv gu gq m : Nat} {vv u o : List Nat} (h : LM w wr gv gu gq m vv u o) : LM w wr.drew gv gu gq m vv u o :=
 ⟨h.rv.drew, h.ru.drew, h.ro.drew, h.k3, h.k4, h.bw.drew, h.n1, h.n2, h.n3, h.lt⟩
theorem LM.u {w wr w' : World} {gv gu gq m : Nat} {vv u o u' : List Nat} (h : LM w wr gv gu gq m vv u o) (hr : Row w' w.heap.size gu u.length u') (hg : wr.grownBy w' (some gu)) (hl : u'.length = u.length) : LM w w' gv gu gq m vv u' o := by
 have lt := h.lt
 have sz := h.ru.lt
 refine ⟨h.rv.kept hg (fun ad e _ => by cases e; exact h.n1), by rw [hl]; exact hr, h.ro.kept hg (fun e => h.n3 e.symm), ?_, ?_, h.bw.grown hg h.bw.size (fun k e => by cases e; omega), h.n1, h.n2, h.n3, h.lt⟩
 ·rw [hg.block _ (by omega) (by simp; omega)]; exact h.k3
 ·rw [hg.block _ (by omega) (by simp; omega)]; exact h.k4
theorem LM.o {w wr w' : World} {gv gu gq m : Nat} {vv u o o' : List Nat} (h : LM w wr gv gu gq m vv u o) (hr : Row w' w.heap.size gq m o') (hg : wr.grownBy w' (some gq)) : LM w w' gv gu gq m vv u o' := by
 have lt := h.lt
 have sz := h.ro.lt
 refine ⟨h.rv.kept hg (fun ad e _ => by cases e; exact h.n2), h.ru.kept hg h.n3, hr, ?_, ?_, h.bw.grown hg h.bw.size (fun k e => by cases e; omega), h.n1, h.n2, h.n3, h.lt⟩
 ·rw [hg.block _ (by omega) (by simp; omega)]; exact h.k3
 ·rw [hg.block _ (by omega) (by simp; omega)]; exact h.k4
set_option maxRecDepth 100000 in
set_option maxHeartbeats 6400000 in
theorem long_calls (v u : Value) (a b : Nat) (w : World) (ha : Num w v a) (hb : Num w u b) (la : (dg a).length ≤ 500) (lb : (dg b).length ≤ (dg a).length) (b2 : 2 ≤ (dg b).length) :
    Calls Try.prog 71 #[.agg #[v], .agg #[u]] w fun e w' => ∃ v1 v2, e = .returned (.tuple #[.agg #[v1], .agg #[v2]]) ∧ Num w' v1 (a / b) ∧ Num w' v2 (a % b) ∧ Below w.heap.size w w' := by
 obtain ⟨A, c, rfl, hc, hr⟩ := ha
 obtain ⟨A', c', rfl, hc', hr'⟩ := hb
 have R1 := As.mk hr
 have R2 := As.mk hr'
 clear hr hr'
 go_enter Try.func71, Try.ntmps71
 have la9 := R1.out.len
 have lb9 := R2.out.len
 obtain ⟨w0, hw0⟩ : ∃ w0, w0 = (((w.alloc (.cells #[.slice A ((dg a).length : Nat) c] 66)).alloc (.cells #[.slice A' ((dg b).length : Nat) c'] 66)).alloc (.cells #[.slice none 0 0] 66)).alloc (.cells #[.slice none 0 0] 66) := ⟨_, rfl⟩
 obtain ⟨k1, k2, k3, k4, sz0, B0⟩ := blk4a w _ _ _ _ w0 hw0
 have R10 := As.mk (R1.out.below B0)
 have R20 := As.mk (R2.out.below B0)
 have K3 := As.mk k3
 have K4 := As.mk k4
 have K1 := As.mk k1
 have K2 := As.mk k2
 have B0' := As.mk B0
 have c1 := cell_of_one k1
 have c2 := cell_of_one k2
 obtain ⟨ad, hA, cx⟩ := R20.out.get (j := (dg b).length - 1) (by omega)
 obtain ⟨x, hx⟩ : ∃ x, x = (dg b)[(dg b).length - 1]'(by omega) := ⟨_, rfl⟩
 have xb : x < 4294967296 := by rw [hx]; exact dg_ok' b _ (List.getElem_mem _)
 rw [← hx] at cx
 have HX := As.mk hx
 have SZ := As.mk sz0
 cases hA
 clear hx k1 k2 k3 k4 B0 sz0
 go_wp2
 rw [← hw0]
 clear hw0
 go_step3
 go_wp2
 go_quiet (first | (go_at_call 78; exact Calls.quiet_of_same (lz32_calls x _ xb)))
 obtain ⟨w1, hw1⟩ : ∃ w1, w1 = w0.drewN nq := ⟨_, rfl⟩
 rw [← hw1]
 have R11 : As (Rd w1 A (dg a)) := ⟨by rw [hw1]; exact R10.out.drewN _⟩
 have R21 : As (Rd w1 (some ad) (dg b)) := ⟨by rw [hw1]; exact R20.out.drewN _⟩
 have B1 : As (Below w.heap.size w w1) := ⟨by rw [hw1]; exact drewN_below B0'.out _⟩
 have K11 : As (w1.heap[w.heap.size]? = some (.cells #[.slice A ((dg a).length : Nat) c] 66 (0, 0))) := ⟨by rw [hw1]; exact K1.out⟩
 have K21 : As (w1.heap[w.heap.size + 1]? = some (.cells #[.slice (some ad) ((dg b).length : Nat) c'] 66 (0, 0))) := ⟨by rw [hw1]; exact K2.out⟩
 have K31 : As (w1.heap[w.heap.size + 1 + 1]? = some (.cells #[.slice none 0 0] 66 (0, 0))) := ⟨by rw [hw1]; exact K3.out⟩
 have K41 : As (w1.heap[w.heap.size + 1 + 1 + 1]? = some (.cells #[.slice none 0 0] 66 (0, 0))) := ⟨by rw [hw1]; exact K4.out⟩
 have SZ1 : As (w1.heap.size = w.heap.size + 1 + 1 + 1 + 1) := ⟨by rw [hw1]; exact SZ.out⟩
 clear K1 K2 K3 K4 R10 R20 B0' SZ c1 c2 cx hw1
 have c1 := cell_of_one K11.out
 have c2 := cell_of_one K21.out
 obtain ⟨s, hs⟩ : ∃ s, s = 32 - bl x := ⟨_, rfl⟩
 rw [← hs]
 obtain ⟨s32, nb, na, NR⟩ := norm b2 lb HX.out hs
 have NRM := As.mk NR
 obtain ⟨lu, hlu⟩ : ∃ lu, lu = (dg a).length + 1 := ⟨_, rfl⟩
 have UA := up_calls A c (dg a) s lu
 rw [← hlu] at na
 have UI := As.mk (show (lu : Int) = ((dg a).length : Int) + 1 by omega)
 have UB := As.mk (up_calls (some ad) c' (dg b) s (dg b).length w1 R21.out (dg_ok' b) hc' s32 (Nat.le_refl _) (by omega) (by rw [val_dg']; exact nb))
 have UA' := As.mk fun wx (hx : Rd wx A (dg a)) => up_calls A c (dg a) s lu wx hx (dg_ok' a) hc s32 (by omega) (by omega) (by rw [val_dg']; exact na)
 rw [UI.out] at UA'
 obtain ⟨m, hm⟩ : ∃ m, m = lu - (dg b).length := ⟨_, rfl⟩
 have lub : lu ≤ 501 := by omega
 have nlu : (dg b).length ≤ lu := by omega
 have MM := As.mk (show lu = m + (dg b).length by omega)
 have MI := As.mk (show (lu : Int) - ((dg b).length : Int) = (m : Int) by omega)
 clear hm
 have HS := As.mk hs
 have LU := As.mk hlu
 clear NR nb na UA hs hlu
 obtain ⟨i0, hi0, hz0, hz1, hz2⟩ := info_parts info_u32
 go_wp2_with (first
  | (go_at_call 79; ((with_reducible refine UB.out.mono ?_); rintro e w2 ⟨vv, rfl, rowv, lv, okv, ev, bb2⟩; have RV := As.mk (rowv.read (by rw [lv]; omega)); have VV := As.mk (show vv.length = (dg b).length ∧ ok vv ∧ val vv = b * 2 ^ s from ⟨lv, okv, ev.trans (by rw [val_dg'])⟩); have B2 := As.mk (B1.out.trans (bb2.mono B1.out.size)); have K12 := As.mk ((bb2.block _ (by rw [SZ1.out]; omega)).trans K11.out); have BB2 := As.mk bb2; have GV := As.mk rowv.lt; have RA2 := As.mk (R11.out.below bb2); clear rowv lv okv ev bb2; have c3 := cell_of_one K12.out))
  | (go_at_call 79; ((with_reducible refine (UA'.out w2 RA2.out).mono ?_); rintro e w3 ⟨uu, rfl, rowu, lu1, oku, eu, bb3⟩; have LU1 := As.mk lu1; have RU := As.mk rowu; have UU := As.mk (show uu.length = lu ∧ ok uu ∧ val uu = a * 2 ^ s from ⟨lu1, oku, eu.trans (by rw [val_dg'])⟩); have BB3 := As.mk bb3; clear rowu oku eu bb3 lu1))
  | (at_make; go_loud (refine wpList_make_lc _ rfl (.tmp 48) (.tmp 48) 56 rfl 92 i0 (.int .u32 0) Try.underlying56 hi0 hz0 .i64 .i64 _ _ m m rfl rfl MI.out MI.out (Nat.le_refl _) (by rw [hz2]; have := MM.out; omega) (by unfold maxLen; have := MM.out; omega) ?_; intro w4 h9 g2; have h9' := made_cells hz1 h9; have b4 := made_below g2; have b34 := BB3.out.trans (b4.mono BB3.out.size); have LMM : As (LM w w4 w1.heap.size w2.heap.size w3.heap.size m vv uu (List.replicate m 0)) := ⟨⟨RV.out.below b34, by rw [LU1.out]; exact (RU.out.below b4).mono B2.out.size, Row.of_cells (w := w4) (c := m) (l := List.replicate m 0) (rest := []) (by have := B2.out.size; have := BB3.out.size; omega) (by rw [List.append_nil]; exact h9') (by simp) (by have := MM.out; omega), (b34.block _ (by have := GV.out; have := SZ1.out; omega)).trans ((BB2.out.block _ (by have := SZ1.out; omega)).trans K31.out), (b34.block _ (by have := GV.out; have := SZ1.out; omega)).trans ((BB2.out.block _ (by have := SZ1.out; omega)).trans K41.out), B2.out.trans (b34.mono B2.out.size), by have := GV.out; omega, by have := GV.out; have := BB3.out.size; omega, by have := RU.out.lt; omega, by have := GV.out; have := SZ1.out; have := BB3.out.size; omega⟩⟩; clear h9 h9' g2 b4 b34)))
 clear hi0 hz0 hz1 hz2
 obtain ⟨nrm, los⟩ := NRM.out vv VV.out.2.1 VV.out.1 VV.out.2.2
 have NV := As.mk nrm
 have L0 := los uu UU.out.2.1 (UU.out.1.trans LU.out) UU.out.2.2
 rw [show (dg a).length + 1 - (dg b).length = m by have := LU.out; have := MM.out; omega] at L0
 have LS := As.mk L0
 have VB := As.mk VV.out.2.2
 have ML := As.mk (show lu = m + vv.length by rw [VV.out.1]; exact MM.out)
 have vl500 : vv.length ≤ 500 := by rw [VV.out.1]; omega
 rw [← VV.out.1]
 obtain ⟨gv, hgv⟩ : ∃ g, g = w1.heap.size := ⟨_, rfl⟩
 obtain ⟨gu, hgu⟩ : ∃ g, g = w2.heap.size := ⟨_, rfl⟩
 obtain ⟨gq, hgq⟩ : ∃ g, g = w3.heap.size := ⟨_, rfl⟩
 rw [← hgv, ← hgu, ← hgq] at LMM
 rw [← hgv, ← hgu, ← hgq]
 clear hgv hgu hgq nrm los L0 NRM VV UU LU UB UA' UI MI MM R1 R2 R11 R21 B1 K11 K21 K31 K41 SZ1 HS HX c1 c2 RV B2 K12 BB2 GV RA2 c3 LU1 RU BB3 nlu
 go_step3
 go_wp2
 go_loopg [12] m (fun gk v12 wr => ∃ (t : Nat) (u hi : List Nat), v12 = .int .i64 ((t : Int) - 1) ∧ As (t ≤ m ∧ t ≤ gk) ∧ As (LoS vv (a * 2 ^ s) m t u hi) ∧ As (LM w wr gv gu gq m vv u (List.replicate t 0 ++ hi)))
 case atStart => exact ⟨m, uu, [], congrArg (Value.int IntKind.i64) (by have := ML.out; omega), ⟨by omega⟩, LS, ⟨by rw [List.append_nil]; exact LMM.out⟩⟩
 case round =>
  clear LMM LS
  obtain ⟨t, u, hi, rfl, T, S, M⟩ := hrel
  obtain ⟨tm, tg⟩ := T.out
  have ul := S.out.lu
  have nv2 := NV.out.two
  have ml1 : lu ≤ m + vv.length := Nat.le_of_eq ML.out
  have ml2 : m + vv.length ≤ lu := Nat.le_of_eq ML.out.symm
  by_cases t0 : t = 0
  ·subst t0
   obtain ⟨q1, q2⟩ := S.out.stop
   have vb := VB.out
   rw [vb] at q1 q2
   have p0 := (p32 s32).2
   rw [Nat.mul_div_mul_right _ _ p0] at q1
   rw [Nat.mul_mod_mul_right] at q2
   have lh := S.out.lh
   rw [Nat.add_zero] at lh
   have ro := M.out.ro
   rw [List.replicate_zero, List.nil_append] at ro
   have CC := cut_calls (some ⟨gq, 0, none⟩) m hi wr (ro.read (by omega)) S.out.okh (by omega)
   rw [lh, q1] at CC
   have CO := As.mk CC
   have ulu : u.length = lu := by omega
   have ru := M.out.ru
   have DC := As.mk fun w5 (hb : Below wr.heap.size wr w5) => down_calls w.heap.size gu u.length u s w5 (ru.below hb) S.out.oku s32 (by omega)
   rw [ulu, q2, Nat.mul_div_cancel _ p0] at DC
   have l3 : w.heap.size + 1 + 1 < wr.heap.size := by have := M.out.lt; have := ru.lt; omega
   have l4 : w.heap.size + 1 + 1 + 1 < wr.heap.size := by have := M.out.lt; have := ru.lt; omega
   have L3 := As.mk l3
   have L4 := As.mk l4
   clear CC q1 q2 vb p0 lh ro ru ulu l3 l4
   go_wp2_with (first
    | (go_at_call 55; (with_reducible refine CO.out.mono ?_); rintro e w5 ⟨v5, rfl, hn5, hb5⟩; obtain ⟨A5, c5, rfl, hc5, hr5⟩ := hn5; have R5 := As.mk hr5; have HB5 := As.mk hb5; clear hr5 hb5)
    | (go_at_call 81; (with_reducible refine (DC.out w5 HB5.out).mono ?_); rintro e w6 ⟨v6, rfl, hn6, hb6⟩; obtain ⟨A6, c6, rfl, hc6, hr6⟩ := hn6; have R6 := As.mk hr6; have R56 := As.mk (R5.out.below hb6); have BB := As.mk (M.out.bw.trans ((HB5.out.trans (hb6.mono HB5.out.size)).mono M.out.bw.size)); have K36 := As.mk ((hb6.block _ (Nat.lt_of_lt_of_le L3.out HB5.out.size)).trans ((HB5.out.block _ L3.out).trans M.out.k3)); have K46 := As.mk ((hb6.block _ (Nat.lt_of_lt_of_le L4.out HB5.out.size)).trans ((HB5.out.block _ L4.out).trans M.out.k4)); have c3' := cell_of_one K36.out; have f3' := free_of_one K36.out; have c4' := cell_of_one K46.out; have f4' := free_of_one K46.out; clear hr6 hb6))
   simp only [Exit.noGoto]
   have K37 : As (((w6.setCell ⟨w.heap.size + 1 + 1, 0, none⟩ (.slice A5 ((dg (a / b)).length : Nat) c5)).setCell ⟨w.heap.size + 1 + 1 + 1, 0, none⟩ (.slice A6 ((dg (a % b)).length : Nat) c6)).heap[w.heap.size + 1 + 1]? = some (.cells #[.slice A5 ((dg (a / b)).length : Nat) c5] 66 (0, 0))) := ⟨(Below.heap_setCell _ _ _ _ (by show w.heap.size + 1 + 1 ≠ w.heap.size + 1 + 1 + 1; omega)).trans (one_setCell K36.out)⟩
   have K47 : As ((w6.setCell ⟨w.heap.size + 1 + 1, 0, none⟩ (.slice A5 ((dg (a / b)).length : Nat) c5)).heap[w.heap.size + 1 + 1 + 1]? = some (.cells #[.slice none 0 0] 66 (0, 0))) := ⟨(Below.heap_setCell _ _ _ _ (by show w.heap.size + 1 + 1 + 1 ≠ w.heap.size + 1 + 1; omega)).trans K46.out⟩
   refine bodyPost_ret (ret_two rfl (w.heap.size + 1 + 1) (w.heap.size + 1 + 1 + 1) (.slice A5 ((dg (a / b)).length : Nat) c5) (.slice A6 ((dg (a % b)).length : Nat) c6) rfl rfl K37.out (one_setCell K47.out)) rfl ?_
   exact ⟨_, _, rfl, ⟨A5, c5, rfl, hc5, (R56.out.put K36.out (by simp) _).put K47.out (by simp) _⟩, ⟨A6, c6, rfl, hc6, (R6.out.put K36.out (by simp) _).put K47.out (by simp) _⟩, (BB.out.setCell (by show w.heap.size ≤ w.heap.size + 1 + 1; omega) _).setCell (by show w.heap.size ≤ w.heap.size + 1 + 1 + 1; omega) _⟩
  ·obtain ⟨j, rfl⟩ : ∃ j, t = j + 1 := ⟨t - 1, by omega⟩
   have d5 := S.out.two NV.out
   obtain ⟨cu1, _⟩ := M.out.ru.get (j := j + vv.length) (by omega)
   obtain ⟨cu2, _⟩ := M.out.ru.get (j := j + vv.length - 1) (by omega)
   obtain ⟨cu3, _⟩ := M.out.ru.get (j := j + vv.length - 2) (by omega)
   obtain ⟨av, hav, cv1⟩ := M.out.rv.get (j := vv.length - 1) (by omega)
   obtain ⟨av', hav', cv2⟩ := M.out.rv.get (j := vv.length - 2) (by omega)
   cases hav
   cases hav'
   rw [Addr.add_lit, Nat.zero_add] at cv1 cv2
   rw [← at0_lt] at cu1 cu2 cu3 cv1 cv2
   obtain ⟨x1, hx1⟩ : ∃ x, x = at0 u (j + vv.length) := ⟨_, rfl⟩
   obtain ⟨x2, hx2⟩ : ∃ x, x = at0 u (j + vv.length - 1) := ⟨_, rfl⟩
   obtain ⟨x3, hx3⟩ : ∃ x, x = at0 u (j + vv.length - 2) := ⟨_, rfl⟩
   obtain ⟨y1, hy1⟩ : ∃ x, x = at0 vv (vv.length - 1) := ⟨_, rfl⟩
   obtain ⟨y2, hy2⟩ : ∃ x, x = at0 vv (vv.length - 2) := ⟨_, rfl⟩
   have x1b : x1 < 4294967296 := by rw [hx1]; exact at0_ok S.out.oku _
   have x2b : x2 < 4294967296 := by rw [hx2]; exact at0_ok S.out.oku _
   rw [← hx1] at cu1
   rw [← hx2] at cu2
   rw [← hx3] at cu3
   rw [← hy1] at cv1
   rw [← hy2] at cv2
   rw [← hx1, ← hx2, ← hx3, ← hy1, ← hy2] at d5
   clear hx1 hx2 hx3 hy1 hy2
   have D5 := As.mk d5
   have x3b := d5.l2
   have y1b := d5.l1
   have y1g := d5.g1
   have y2b := d5.l0
   have OR1 := As.mk (or_halves x1 x2 x1b x2b)
   have jj : ((j + 1 : Nat) : Int) - 1 = (j : Int) := by omega
   rw [jj]
   clear d5 jj
   go_wp2
   go_quiet (fail)
   obtain ⟨X, hX⟩ : ∃ X, X = x1 * 4294967296 + x2 := ⟨_, rfl⟩
   have OR2 : As ((x1 : Int) * 4294967296 + (x2 : Int) = (X : Int)) := ⟨by omega⟩
   rw [OR1.out, OR2.out]
   rw [← hX] at D5
   have Xb := D5.out.x
   obtain ⟨wa, hwa⟩ : ∃ wa, wa = wr.drewN nq := ⟨_, rfl⟩
   rw [← hwa]
   have M1 : As (LM w wa gv gu gq m vv u (List.replicate (j + 1) 0 ++ hi)) := ⟨by rw [hwa]; exact M.out.drewN _⟩
   have cu1' : wa.cell? ⟨gu, j + vv.length, none⟩ = some (.int .u32 (x1 : Int)) := by rw [hwa]; exact cu1
   have cu2' : wa.cell? ⟨gu, j + vv.length - 1, none⟩ = some (.int .u32 (x2 : Int)) := by rw [hwa]; exact cu2
   have cu3' : wa.cell? ⟨gu, j + vv.length - 2, none⟩ = some (.int .u32 (x3 : Int)) := by rw [hwa]; exact cu3
   have cv1' : wa.cell? ⟨gv, vv.length - 1, none⟩ = some (.int .u32 (y1 : Int)) := by rw [hwa]; exact cv1
   have cv2' : wa.cell? ⟨gv, vv.length - 2, none⟩ = some (.int .u32 (y2 : Int)) := by rw [hwa]; exact cv2
   have HX := As.mk hX
   clear cu1 cu2 cu3 cv1 cv2 hwa hX OR1 OR2 M
   go_wp2
   go_quiet (fail)
   have dX : IntKind.u64.wrap ((X : Int) / (y1 : Int)) = ((X / y1 : Nat) : Int) := by
    rw [← Int.natCast_ediv]; exact u64_wrap _ (Nat.lt_of_le_of_lt (Nat.div_le_self _ _) (by omega))
   have rX : (X : Int) % (y1 : Int) = ((X % y1 : Nat) : Int) := (Int.natCast_emod _ _).symm
   rw [dX, rX]
   obtain ⟨wb, hwb⟩ : ∃ wb, wb = wa.drewN nq := ⟨_, rfl⟩
   rw [← hwb]
   have M2 : As (LM w wb gv gu gq m vv u (List.replicate (j + 1) 0 ++ hi)) := ⟨by rw [hwb]; exact M1.out.drewN _⟩
   have dx3 : wb.cell? ⟨gu, j + vv.length - 2, none⟩ = some (.int .u32 (x3 : Int)) := by rw [hwb]; exact cu3'
   have dy1 : wb.cell? ⟨gv, vv.length - 1, none⟩ = some (.int .u32 (y1 : Int)) := by rw [hwb]; exact cv1'
   have dy2 : wb.cell? ⟨gv, vv.length - 2, none⟩ = some (.int .u32 (y2 : Int)) := by rw [hwb]; exact cv2'
   have C3 := As.mk (show ∀ wx : World, wx.heap = wb.heap → wx.cell? ⟨gu, j + vv.length - 2, none⟩ = some (.int .u32 (x3 : Int)) ∧ wx.cell? ⟨gv, vv.length - 1, none⟩ = some (.int .u32 (y1 : Int)) ∧ wx.cell? ⟨gv, vv.length - 2, none⟩ = some (.int .u32 (y2 : Int)) from fun wx h => by
    simp only [World.cell?, h] at *; exact ⟨dx3, dy1, dy2⟩)
   have HB := As.mk (show wb.heap = wb.heap from rfl)
   clear cu1' cu2' cu3' cv1' cv2' hwb dX rX M1 dx3 dy1 dy2 Xb
   go_upto_block 2 with fail
   go_cut [14] (fun v14 wx => ∃ d : Nat, v14 = .int .u64 (d : Int) ∧ As (Got (val vv) (val ((u.drop j).take (vv.length + 1))) d) ∧ As (LM w wx gv gu gq m vv u (List.replicate (j + 1) 0 ++ hi)))
   case first =>
    go_wp2_with fail
    go_loopg [14, 15] (X / y1) (fun gk v14 v15 wx => ∃ (d r : Nat), v14 = .int .u64 (d : Int) ∧ v15 = .int .u64 (r : Int) ∧ As (d ≤ gk) ∧ As (Est (4294967296 ^ (vv.length - 2)) (val vv) (val ((u.drop j).take (vv.length + 1))) y1 y2 X x3 d r) ∧ As (LM w wx gv gu gq m vv u (List.replicate (j + 1) 0 ++ hi)) ∧ As (wx.heap = wb.heap))
    case atStart => exact ⟨_, _, rfl, rfl, ⟨Nat.le_refl _⟩, ⟨Est.start D5.out⟩, M2, ⟨rfl⟩⟩
    case round =>
     clear M2 HB
     obtain ⟨d, r, rfl, rfl, G, E, M, HB⟩ := hrel
     obtain ⟨dx3, dy1, dy2⟩ := C3.out _ HB.out
     have dt := E.out.top D5.out
     have rb := E.out.r1
     have dg := G.out
     by_cases hd : 4294967296 ≤ d
     ·have bb : (((d : Int) / 4294967296) == 0) = false := by rw [beq_eq_false_iff_ne]; omega
      have bb2 : ¬ ((d : Int) / 4294967296 = 0) := by omega
      have hdm : 4294967296 ≤ d ∨ d * y2 > r * 4294967296 + x3 := .inl hd
      ·go_wp2
       go_quiet (fail)
       obtain ⟨wy, hwy⟩ : ∃ wy, wy = wr.drewN nq := ⟨_, rfl⟩
       rw [← hwy]
       have M3 : As (LM w wy gv gu gq m vv u (List.replicate (j + 1) 0 ++ hi)) := ⟨by rw [hwy]; exact M.out.drewN _⟩
       have HB3 : As (wy.heap = wb.heap) := ⟨by rw [hwy]; exact HB.out⟩
       obtain ⟨ex3, ey1, ey2⟩ := C3.out _ HB3.out
       clear hwy HB M dx3 dy1 dy2 bb bb2
       have d0 := (E.out.less D5.out hdm).1
       have ds : (d : Int) - 1 = ((d - 1 : Nat) : Int) := by omega
       have DS := As.mk ds
       have HD := As.mk hdm
       clear ds hdm
       by_cases hr : r + y1 < 4294967296
       ·go_wp2
        go_roundg (d - 1)
        case measure => omega
        case rel => exact ⟨d - 1, r + y1, congrArg (Value.int IntKind.u64) DS.out, by simp, ⟨Nat.le_refl _⟩, ⟨E.out.next D5.out HD.out hr⟩, M3, HB3⟩
       ·go_wp2
        go_meet
        exact ⟨d - 1, congrArg (Value.int IntKind.u64) DS.out, ⟨E.out.over D5.out HD.out (by omega)⟩, M3⟩
     ·have bb : (((d : Int) / 4294967296) == 0) = true := by rw [beq_iff_eq]; omega
      have bb2 : ((d : Int) / 4294967296 = 0) := by omega
      have bd := Nat.mul_le_mul (show d ≤ 4294967295 by omega) (show y2 ≤ 4294967295 by omega)
      have xy : (d : Int) * (y2 : Int) = ((d * y2 : Nat) : Int) := (Int.natCast_mul _ _).symm
      have xy0 : 0 ≤ (d : Int) * (y2 : Int) := by rw [xy]; omega
      have xy1 : (d : Int) * (y2 : Int) ≤ 18446744065119617025 := by rw [xy]; omega
      have or3 := or_halves r x3 rb x3b
      by_cases hm : d * y2 > r * 4294967296 + x3
      ·have hdm : 4294967296 ≤ d ∨ d * y2 > r * 4294967296 + x3 := .inr hm
       have hg : Go.bits .or .u64 ((r : Int) * 4294967296) (x3 : Int) < (d : Int) * (y2 : Int) := by rw [or3, xy]; omega
       clear xy or3 bd hm
       go_wp2
       go_quiet (fail)
       obtain ⟨wy, hwy⟩ : ∃ wy, wy = wr.drewN nq := ⟨_, rfl⟩
       rw [← hwy]
       have M3 : As (LM w wy gv gu gq m vv u (List.replicate (j + 1) 0 ++ hi)) := ⟨by rw [hwy]; exact M.out.drewN _⟩
       have HB3 : As (wy.heap = wb.heap) := ⟨by rw [hwy]; exact HB.out⟩
       obtain ⟨ex3, ey1, ey2⟩ := C3.out _ HB3.out
       clear hwy HB M dx3 dy1 dy2 bb bb2 hg xy0 xy1
       have d0 := (E.out.less D5.out hdm).1
       have ds : (d : Int) - 1 = ((d - 1 : Nat) : Int) := by omega
       have DS := As.mk ds
       have HD := As.mk hdm
       clear ds hdm
       by_cases hr : r + y1 < 4294967296
       ·go_wp2
        go_roundg (d - 1)
        case measure => omega
        case rel => exact ⟨d - 1, r + y1, congrArg (Value.int IntKind.u64) DS.out, by simp, ⟨Nat.le_refl _⟩, ⟨E.out.next D5.out HD.out hr⟩, M3, HB3⟩
       ·go_wp2
        go_meet
        exact ⟨d - 1, congrArg (Value.int IntKind.u64) DS.out, ⟨E.out.over D5.out HD.out (by omega)⟩, M3⟩
      ·have hg : (Go.bits .or .u64 ((r : Int) * 4294967296) (x3 : Int) < (d : Int) * (y2 : Int)) = False := by rw [or3, xy]; exact eq_false (by omega)
       have GT := As.mk (E.out.stop D5.out (by omega) (by omega))
       clear xy or3 bd hm
       go_wp2
       go_quiet (fail)
       obtain ⟨wy, hwy⟩ : ∃ wy, wy = wr.drewN nq := ⟨_, rfl⟩
       rw [← hwy]
       have M3 : As (LM w wy gv gu gq m vv u (List.replicate (j + 1) 0 ++ hi)) := ⟨by rw [hwy]; exact M.out.drewN _⟩
       have HB3 : As (wy.heap = wb.heap) := ⟨by rw [hwy]; exact HB.out⟩
       obtain ⟨ex3, ey1, ey2⟩ := C3.out _ HB3.out
       clear hwy HB M dx3 dy1 dy2 bb bb2 hg xy0 xy1
       go_wp2
       go_meet
       exact ⟨d, rfl, GT, M3⟩
   case rest =>
    obtain ⟨d, rfl, G, M⟩ := hcut
    have d1 := G.out.d1
    clear D5 C3 HX M2 HB x1b x2b x3b y1b y1g y2b
    obtain ⟨p1, p2, p3, p4, p5⟩ := S.out.part NV.out
    obtain ⟨P, hP⟩ : ∃ P, P = (u.drop j).take (vv.length + 1) := ⟨_, rfl⟩
    rw [← hP] at p3 p5 G
    have okP : ok P := by rw [hP]; exact ok_take (ok_drop S.out.oku j) _
    have HP := As.mk hP
    have RA : Row wc w.heap.size gu u.length (u.take j ++ (P ++ u.drop (j + vv.length + 1))) := by rw [← p5]; exact M.out.ru
    have AW := away_calls w.heap.size gu u.length (vv.length + 1) vv.length j d (some ⟨gv, 0, none⟩) (u.take j) P (u.drop (j + vv.length + 1)) vv wc RA p4 M.out.rv (fun ad e _ => by cases e; exact M.out.n1) okP NV.out.okv (by omega) (by rw [p4, p3, List.length_drop]; omega) d1 (by omega)
    rw [p3] at AW
    have AC := As.mk AW
    have PL := As.mk p3
    clear hP RA AW p1 p2 p3 p4 p5 okP
    go_wp2_with (first
     | (go_at_call 80; rw [show j + vv.length + 1 - j = vv.length + 1 by omega]; ((with_reducible refine AC.out.mono ?_); rintro e wd ⟨o, bo, rfl, b1, ro, lo, oko, eo, gd⟩; have MD : As (LM w wd gv gu gq m vv (u.take j ++ (o ++ u.drop (j + vv.length + 1))) (List.replicate (j + 1) 0 ++ hi)) := ⟨M.out.u ro gd (by simp only [List.length_append, List.length_take, List.length_drop, lo]; omega)⟩; have LO := As.mk lo; have OO := As.mk oko; have EO := As.mk eo; obtain ⟨co, fo⟩ := MD.out.ro.get (j := j) (by have := S.out.lh; simp only [List.length_append, List.length_replicate]; omega); clear ro lo oko eo gd; rcases (show bo = 0 ∨ bo = 1 by omega) with rfl | rfl)))
    ·have ff := fore (V := val vv) (P := val P) (d := d) (o := val o) G.out (by have := EO.out; rw [Nat.mul_zero, Nat.add_zero] at this; exact this)
     have N := S.out.next NV.out LO.out OO.out d1 ff.1 (by rw [← HP.out]; exact ff.2)
     have sr := MD.out.ro.set j d
     rw [set_out] at sr
     go_roundg j
     case measure => omega
     case rel => exact ⟨j, _, d :: hi, rfl, ⟨by omega⟩, ⟨N⟩, ⟨MD.out.o sr (grown_set (World.grownBy.refl _ _))⟩⟩
    ·have vlt := val_lt OO.out
     rw [LO.out] at vlt
     obtain ⟨d0, _, bk⟩ := back (V := val vv) (P := val P) (d := d) (o := val o) G.out vlt (by have := EO.out; rw [Nat.mul_one] at this; exact this)
     have BK := As.mk bk
     have ds : ((d : Int) - 1) % 4294967296 = ((d - 1 : Nat) : Int) := by omega
     have sr := MD.out.ro.set j (d - 1)
     rw [set_out] at sr
     rw [ds]
     have ME : As (LM w (wd.setCell ⟨gq, j, none⟩ (.int .u32 ((d - 1 : Nat) : Int))) gv gu gq m vv (u.take j ++ (([] ++ o.drop 0) ++ u.drop (j + vv.length + 1))) (List.replicate j 0 ++ (d - 1) :: hi)) := ⟨by rw [List.drop_zero, List.nil_append]; exact MD.out.o sr (grown_set (World.grownBy.refl _ _))⟩
     have H0 := As.mk (S.out.part NV.out).2.2.2.1
     have D0 := As.mk d0
     clear bk vlt ds sr MD co fo d0
     go_loopg [17, 157] (vv.length + 1) (fun gk v17 v157 wr => ∃ (i cy : Nat) (o2 : List Nat), v17 = .int .u64 (cy : Int) ∧ v157 = .int .i64 (i : Int) ∧ As (i ≤ vv.length + 1 ∧ vv.length + 1 - i ≤ gk) ∧ As (SumS o vv i cy o2) ∧ As (LM w wr gv gu gq m vv (u.take j ++ ((o2 ++ o.drop i) ++ u.drop (j + vv.length + 1))) (List.replicate j 0 ++ (d - 1) :: hi)))
     case atStart => exact ⟨0, 0, [], rfl, rfl, ⟨by omega⟩, ⟨SumS.start _ _⟩, ME⟩
     case round =>
      clear ME
      obtain ⟨i, cy, o2, rfl, rfl, I, S2, M⟩ := hrel
      obtain ⟨im, ig⟩ := I.out
      have cb := S2.out.c1
      have lo := LO.out
      have N2 := S2.out.next OO.out NV.out.okv
      by_cases hi' : i < vv.length + 1
      ·have io : i < o.length := by omega
       have h0 := H0.out
       have jo : j + i < (u.take j ++ ((o2 ++ o.drop i) ++ u.drop (j + vv.length + 1))).length := by have := S2.out.len; simp only [List.length_append, List.length_drop]; omega
       obtain ⟨cj, fj⟩ := M.out.ru.get jo
       rw [mid_get h0 S2.out.len io] at cj
       obtain ⟨z, hz⟩ : ∃ z, z = o[i] := ⟨_, rfl⟩
       have zb : z < 4294967296 := by rw [hz]; exact OO.out _ (List.getElem_mem io)
       rw [← hz] at cj
       rw [at0_lt io, ← hz] at N2
       clear hz
       by_cases hv : i < vv.length
       ·obtain ⟨av, hav, cv⟩ := M.out.rv.get hv
        cases hav
        rw [Addr.add_lit, Nat.zero_add] at cv
        obtain ⟨y, hy⟩ : ∃ y, y = vv[i] := ⟨_, rfl⟩
        have yb : y < 4294967296 := by rw [hy]; exact NV.out.okv _ (List.getElem_mem hv)
        rw [← hy] at cv
        rw [at0_lt hv, ← hy] at N2
        have NN := As.mk N2
        clear hy N2
        have e1 : ((cy : Int) + (z : Int) + (y : Int)) % 4294967296 = (((cy + z + y) % 4294967296 : Nat) : Int) := by omega
        have e2 : ((cy : Int) + (z : Int) + (y : Int)) / 4294967296 = (((cy + z + y) / 4294967296 : Nat) : Int) := by omega
        have sr := M.out.ru.set (j + i) ((cy + z + y) % 4294967296)
        have sl := congrArg List.length (mid_set (T := u.drop (j + vv.length + 1)) (x := (cy + z + y) % 4294967296) h0 S2.out.len io)
        rw [List.length_set] at sl
        rw [mid_set h0 S2.out.len io] at sr
        have SR := As.mk sr
        have SL := As.mk sl
        have E1 := As.mk e1
        have E2 := As.mk e2
        clear sr sl e1 e2
        go_wp2
        rw [E1.out, E2.out]
        go_roundg (vv.length + 1 - (i + 1))
        case measure => omega
        case rel => exact ⟨i + 1, _, _, rfl, by simp, ⟨by omega⟩, NN, ⟨M.out.u SR.out (grown_set (World.grownBy.refl _ _)) SL.out.symm⟩⟩
       ·rw [at0_ge (by omega), Nat.add_zero (cy + z)] at N2
        have NN := As.mk N2
        clear N2
        have e1 : ((cy : Int) + (z : Int)) % 4294967296 = (((cy + z) % 4294967296 : Nat) : Int) := by omega
        have e2 : ((cy : Int) + (z : Int)) / 4294967296 = (((cy + z) / 4294967296 : Nat) : Int) := by omega
        have sr := M.out.ru.set (j + i) ((cy + z) % 4294967296)
        have sl := congrArg List.length (mid_set (T := u.drop (j + vv.length + 1)) (x := (cy + z) % 4294967296) h0 S2.out.len io)
        rw [List.length_set] at sl
        rw [mid_set h0 S2.out.len io] at sr
        have SR := As.mk sr
        have SL := As.mk sl
        have E1 := As.mk e1
        have E2 := As.mk e2
        clear sr sl e1 e2
        go_wp2
        rw [E1.out, E2.out]
        go_roundg (vv.length + 1 - (i + 1))
        case measure => omega
        case rel => exact ⟨i + 1, _, _, rfl, by simp, ⟨by omega⟩, NN, ⟨M.out.u SR.out (grown_set (World.grownBy.refl _ _)) SL.out.symm⟩⟩
      ·have ie : i = vv.length + 1 := by omega
       have e3 := S2.out.eq
       rw [List.take_of_length_le (by omega), List.take_of_length_le (by omega), ie] at e3
       have v2 := val_lt S2.out.ok
       rw [S2.out.len, ie] at v2
       obtain ⟨f1, f2⟩ := BK.out _ _ v2 cb e3
       have N3 := As.mk (S.out.next (q := d - 1) NV.out (S2.out.len.trans ie) S2.out.ok (by have := D0.out; omega) f1 (by rw [← HP.out]; exact f2))
       have ML2 := M.out
       rw [List.drop_of_length_le (show o.length ≤ i by omega), List.append_nil] at ML2
       have M5 := As.mk ML2
       clear e3 v2 f1 f2 N2 ML2 M
       go_wp2
       go_roundg j
       case measure => omega
       case rel => exact ⟨j, _, (d - 1) :: hi, rfl, ⟨by omega⟩, N3, M5⟩
end Go.Proofs.Ytllocgmbjjoemaa.Nv
end
section
set_option linter.unusedVariables false
set_option linter.unusedSimpArgs false
namespace Go.Proofs.Ytllocgmbjjoemaa.Nv
open Go Go.RowKit Dg
theorem add0 (a : Addr) : a.add 0 = a := by
 unfold Addr.add
 split <;> simp_all
theorem Rd.cells1 {w : World} {ad : Addr} {l : List Nat} (h : Rd w (some ad) l) : ∀ j u, (us l)[j]? = some u → w.cell? (ad.add j) = some u := fun j u hu => by
 have lt : j < l.length := by
  have := (List.getElem?_eq_some_iff.1 hu).1
  rwa [us_len] at this
 obtain ⟨ad', e, hc⟩ := h.get lt
 cases e
 rw [us, List.getElem?_map, List.getElem?_eq_getElem lt] at hu
 rw [hc]; exact hu
theorem Row.of_owned {w : World} {base : Nat} {v : Value} {l : List Nat} (h : w.ownsRow base 92 1 v l.length (us l)) (hl : 0 < l.length) : ∃ g c, v = .slice (some ⟨g, 0, none⟩) l.length c ∧ Row w base g c l := by
 have h' := h
 rcases h.2 with h2 | ⟨g, c', cur, e, _⟩
 ·have := h2.2; omega
 ·subst e; exact ⟨g, c', rfl, h'⟩
theorem ret_tri {fn : Func} {p q r : Tmp} (h : fn.results = #[.cell p 66, .cell q 66, .tmp r]) {tmps : Array Value} {w : World} (g1 g2 : Nat) (v u x : Value) (hp : tmps.getD p undef = .pointer (some ⟨g1, 0, none⟩)) (hq : tmps.getD q undef = .pointer (some ⟨g2, 0, none⟩)) (hr : tmps.getD r undef = x) (hg1 : w.heap[g1]? = some (.cells #[v] 66 (0, 0))) (hg2 : w.heap[g2]? = some (.cells #[u] 66 (0, 0))) :
    (results fn tmps).run Try.prog w = .ok (.tuple #[.agg #[v], .agg #[u], x]) w := by
 have hp' : tmps[p]?.getD undef = .pointer (some ⟨g1, 0, none⟩) := by simpa using hp
 have hq' : tmps[q]?.getD undef = .pointer (some ⟨g2, 0, none⟩) := by simpa using hq
 have hr' : tmps[r]?.getD undef = x := by simpa using hr
 simp [results, h, hp', hq', hr', asAddr, run_loadVar_row w g1 66 66 #[v] (0, 0) _ hg1 Try.underlying66 rfl (by kernel_rfl), run_loadVar_row w g2 66 66 #[u] (0, 0) _ hg2 Try.underlying66 rfl (by kernel_rfl)]
theorem two_set {w : World} {g1 g2 : Nat} (ne : g1 ≠ g2) {v u : Value} (K1 : w.heap[g1]? = some (.cells #[v] 66 (0, 0))) (K2 : w.heap[g2]? = some (.cells #[u] 66 (0, 0))) (v' u' : Value) :
    ((w.setCell ⟨g1, 0, none⟩ v').setCell ⟨g2, 0, none⟩ u').heap[g1]? = some (.cells #[v'] 66 (0, 0)) ∧ ((w.setCell ⟨g1, 0, none⟩ v').setCell ⟨g2, 0, none⟩ u').heap[g2]? = some (.cells #[u'] 66 (0, 0)) ∧ (w.setCell ⟨g1, 0, none⟩ v').heap[g2]? = some (.cells #[u] 66 (0, 0)) := by
 have k2 : (w.setCell ⟨g1, 0, none⟩ v').heap[g2]? = some (.cells #[u] 66 (0, 0)) := (Below.heap_setCell _ _ _ _ (fun e => ne e.symm)).trans K2
 exact ⟨(Below.heap_setCell _ _ _ _ ne).trans (one_setCell K1), one_setCell k2, k2⟩
theorem below_two {B g1 g2 : Nat} {w0 w : World} (h : Below B w0 w) (h1 : B ≤ g1) (h2 : B ≤ g2) (v u : Value) : Below B w0 ((w.setCell ⟨g1, 0, none⟩ v).setCell ⟨g2, 0, none⟩ u) := (h.setCell h1 v).setCell h2 u
theorem Num.two_set {w : World} {g1 g2 : Nat} (ne : g1 ≠ g2) {v : Value} {n : Nat} (K1 : w.heap[g1]? = some (.cells #[.slice none 0 0] 66 (0, 0))) (K2 : w.heap[g2]? = some (.cells #[.slice none 0 0] 66 (0, 0))) (v' u' : Value) (h : Num w v n) : Num ((w.setCell ⟨g1, 0, none⟩ v').setCell ⟨g2, 0, none⟩ u') v n := by
 obtain ⟨A, c, e, hc, hr⟩ := h
 exact ⟨A, c, e, hc, (hr.put K1 (by simp) _).put (Nv.two_set ne K1 K2 v' u').2.2 (by simp) _⟩
theorem Num.two_set' {w : World} {g1 g2 : Nat} (ne : g1 ≠ g2) {v x y : Value} {n : Nat} (hx : ∀ z, x ≠ .int .u32 z) (hy : ∀ z, y ≠ .int .u32 z) (K1 : w.heap[g1]? = some (.cells #[x] 66 (0, 0))) (K2 : w.heap[g2]? = some (.cells #[y] 66 (0, 0))) (v' u' : Value) (h : Num w v n) : Num ((w.setCell ⟨g1, 0, none⟩ v').setCell ⟨g2, 0, none⟩ u') v n := by
 obtain ⟨A, c, e, hc, hr⟩ := h
 exact ⟨A, c, e, hc, (hr.put K1 hx _).put (Nv.two_set ne K1 K2 v' u').2.2 hy _⟩
set_option maxRecDepth 100000 in
set_option maxHeartbeats 6400000 in
theorem div_calls (v u : Value) (a b : Nat) (w : World) (ha : Num w v a) (hb : Num w u b) (la : (dg a).length ≤ 500) (b0 : b ≠ 0) :
    Calls Try.prog 62 #[.agg #[v], .agg #[u]] w fun e w' => ∃ v1 v2, e = .returned (.tuple #[.agg #[v1], .agg #[v2], .int .i64 0]) ∧ Num w' v1 (a / b) ∧ Num w' v2 (a % b) ∧ Below w.heap.size w w' := by
 have NA := As.mk ha
 have NB := As.mk hb
 obtain ⟨A, c, rfl, hc, hr⟩ := ha
 obtain ⟨A', c', rfl, hc', hr'⟩ := hb
 have la9 := hr.len
 have lb9 := hr'.len
 have lb0 : 0 < (dg b).length := List.length_pos_iff.2 (fun h => b0 (dg_nil.1 h))
 have R1 := As.mk hr
 have R2 := As.mk hr'
 clear hr hr'
 go_enter Try.func62, Try.ntmps62
 obtain ⟨w0, hw0⟩ : ∃ w0, w0 = (((w.alloc (.cells #[.slice A ((dg a).length : Nat) c] 66)).alloc (.cells #[.slice A' ((dg b).length : Nat) c'] 66)).alloc (.cells #[.slice none 0 0] 66)).alloc (.cells #[.slice none 0 0] 66) := ⟨_, rfl⟩
 obtain ⟨k1, k2, k3, k4, sz0, B0⟩ := blk4a w _ _ _ _ w0 hw0
 have K1 := As.mk k1
 have K2 := As.mk k2
 have K3 := As.mk k3
 have K4 := As.mk k4
 have BB := As.mk B0
 have NA0 := As.mk (NA.out.below B0)
 have NB0 := As.mk (NB.out.below B0)
 have R10 := As.mk (R1.out.below B0)
 have R20 := As.mk (R2.out.below B0)
 have SZ := As.mk sz0
 have c1 := cell_of_one k1
 have c2 := cell_of_one k2
 go_upto_region 1 with fail
 rw [← hw0]
 clear k1 k2 k3 k4 sz0 B0 NA NB R1 R2 hw0
 have bl0 : ¬ ((dg b).length = 0) := by omega
 have CC := As.mk (cmp_calls _ _ a b w0 NA0.out NB0.out)
 by_cases lt : a < b
 ·have cv : cmp a b = -1 := by unfold cmp; rw [if_pos lt]
  rw [cv] at CC
  have LT := As.mk lt
  clear cv lt
  go_wp2_with (first
   | (go_at_call 60; (with_reducible refine CC.out.mono ?_); rintro e w1 ⟨rfl, hb1⟩; have HB1 := As.mk hb1; have k11 := (hb1.block _ (by rw [SZ.out]; omega)).trans K1.out; have k31 := (hb1.block _ (by rw [SZ.out]; omega)).trans K3.out; have k41 := (hb1.block _ (by rw [SZ.out]; omega)).trans K4.out; have K11 := As.mk k11; have K31 := As.mk k31; have K41 := As.mk k41; have c1' := cell_of_one k11; have c3' := cell_of_one k31; have f3' := free_of_one k31; have c4' := cell_of_one k41; have f4' := free_of_one k41; clear hb1 k11 k31 k41))
  go_region
  go_wp2
  have dz : a / b = 0 := Nat.div_eq_of_lt LT.out
  have dm : a % b = a := Nat.mod_eq_of_lt LT.out
  have ts := two_set (show w.heap.size + 1 + 1 ≠ w.heap.size + 1 + 1 + 1 by omega) K31.out K41.out (.slice none 0 0) (.slice A ((dg a).length : Nat) c)
  refine bodyPost_ret (ret_tri rfl (w.heap.size + 1 + 1) (w.heap.size + 1 + 1 + 1) (.slice none 0 0) (.slice A ((dg a).length : Nat) c) (.int .i64 0) rfl rfl rfl ts.1 ts.2.1) rfl ?_
  rw [dz, dm]
  have N1 := Num.two_set (show w.heap.size + 1 + 1 ≠ w.heap.size + 1 + 1 + 1 by omega) K31.out K41.out (.slice none 0 0) (.slice A ((dg a).length : Nat) c) (NA0.out.below HB1.out)
  have BE := below_two (BB.out.trans (HB1.out.mono BB.out.size)) (show w.heap.size ≤ w.heap.size + 1 + 1 by omega) (show w.heap.size ≤ w.heap.size + 1 + 1 + 1 by omega) (.slice none 0 0) (.slice A ((dg a).length : Nat) c)
  exact ⟨_, _, rfl, Num.zero _, N1.below (Below.refl _ _).drew, BE.drew⟩
 ·have cv : (cmp a b = 0 ∨ cmp a b = 1) := by unfold cmp; rw [if_neg lt]; split <;> simp
  have cv2 : ¬ (cmp a b < 0) := by omega
  have LT := As.mk lt
  have ca : 0 < (dg a).length := List.length_pos_iff.2 (fun h => lt (by rw [dg_nil.1 h]; omega))
  obtain ⟨cc, hcc⟩ : ∃ cc, cc = cmp a b := ⟨_, rfl⟩
  rw [← hcc] at CC cv cv2
  clear lt hcc
  obtain ⟨ad, hA, _⟩ := R10.out.get (j := 0) ca
  cases hA
  obtain ⟨ad', hA, cx⟩ := R20.out.get (j := 0) lb0
  cases hA
  obtain ⟨x, hx⟩ : ∃ x, x = (dg b)[0] := ⟨_, rfl⟩
  rw [← hx] at cx
  have HX := As.mk hx
  clear hx
  by_cases l1 : (dg b).length = 1
  ·have l1a : (dg b).length ≤ 1 := by omega
   have xb : b = x := by
    have e := val_dg' b
    have h1 := val_take (l := dg b) 0 lb0
    rw [List.take_of_length_le (by omega), List.take_zero, ← HX.out] at h1
    rw [← e, h1]; simp [val]
   have xl : x < 4294967296 := by rw [HX.out]; exact dg_ok' b _ (List.getElem_mem _)
   have XB := As.mk xb
   have x0 : 0 < x := by omega
   obtain ⟨rr, hrr⟩ : ∃ rr, rr = val (dg a) % x := ⟨_, rfl⟩
   have rl : rr < 4294967296 := by rw [hrr]; exact Nat.lt_trans (Nat.mod_lt _ x0) xl
   have RR := As.mk hrr
   clear hrr
   clear xb l1
   obtain ⟨i0, hi0, hz0, hz1, hz2⟩ := info_parts info_u32
   go_wp2_with (first
    | (go_at_call 60; (with_reducible refine CC.out.mono ?_); rintro e w1 ⟨rfl, hb1⟩; have HB1 := As.mk hb1; have RA1 := As.mk (R10.out.below hb1); have k11 := (hb1.block _ (by rw [SZ.out]; omega)).trans K1.out; have k21 := (hb1.block _ (by rw [SZ.out]; omega)).trans K2.out; have k31 := (hb1.block _ (by rw [SZ.out]; omega)).trans K3.out; have k41 := (hb1.block _ (by rw [SZ.out]; omega)).trans K4.out; have K11 := As.mk k11; have K21 := As.mk k21; have K31 := As.mk k31; have K41 := As.mk k41; have c1' := cell_of_one k11; have c2' := cell_of_one k21; have RB1 := As.mk (R20.out.below hb1); clear hb1 k11 k21 k31 k41)
    | (at_builtin; go_loud (refine wpList_append_grows _ rfl (.const (.slice none 0 0)) (.tmp 26) 56 rfl 92 i0 (.int .u32 0) 1 4 Try.underlying56 hi0 hz0 hz1 hz2 rfl (by decide) none 0 0 [] rfl (fun _ => ⟨rfl, rfl⟩) rfl (fun b e => by cases e) ad (dg a).length c (us (dg a)) rfl (by rw [us_len, Nat.mul_one]) RA1.out.cells1 (us_one _) (by omega) (by unfold maxLen; omega) (by omega) ?_; intro v' w2 hown hgr; rw [Nat.zero_add, List.nil_append] at hown; obtain ⟨g, cap, rfl, hrow⟩ := Row.of_owned hown ca; have HROW := As.mk hrow; have HG := As.mk hrow.block.1; have B12 := As.mk (made_below hgr); have k12 := (hgr.block _ (by have := SZ.out; have := HB1.out.size; omega) (by simp)).trans K11.out; have k22 := (hgr.block _ (by have := SZ.out; have := HB1.out.size; omega) (by simp)).trans K21.out; have k32 := (hgr.block _ (by have := SZ.out; have := HB1.out.size; omega) (by simp)).trans K31.out; have k42 := (hgr.block _ (by have := SZ.out; have := HB1.out.size; omega) (by simp)).trans K41.out; have K32 := As.mk k32; have K42 := As.mk k42; have c22 := cell_of_one k22; obtain ⟨ad2, hA2, cx2⟩ := (RB1.out.below B12.out).get lb0; cases hA2; rw [← HX.out, add0] at cx2; have SH0 := short_calls w1.heap.size g cap x (dg a) w2 hrow (dg_ok' a) (by omega) x0 xl; rw [← RR.out] at SH0; have SH := As.mk SH0; clear k12 k22 k32 k42 hown hgr hrow SH0))
    | (go_at_call 70; (with_reducible refine SH.out.mono ?_); rintro e w3 ⟨rfl, o, ro, lo, oko, eo, gr3⟩; have RO := As.mk ro; have ocap := ro.block.2.1; rw [lo] at ocap; have B23 := As.mk (B12.out.grown gr3 (by have := B12.out.size; omega) (fun k e => by cases e; exact HG.out)); have CU := cut_calls (some ⟨g, 0, none⟩) cap o w3 (ro.read (by omega)) oko (by omega); rw [lo, eo, val_dg', ← XB.out] at CU; have CO := As.mk CU; clear CU ro lo oko eo gr3)
    | (go_at_call 55; (with_reducible refine CO.out.mono ?_); rintro e w4 ⟨v5, rfl, hn5, hb5⟩; obtain ⟨A5, c5, rfl, hc5, hr5⟩ := hn5; have R5 := As.mk hr5; have B34 := As.mk (B23.out.trans (hb5.mono (by have := B23.out.size; omega))); clear hr5 hb5)
    | (go_at_call 46; (with_reducible refine (of_calls rr (by omega) w4).mono ?_); rintro e w5 ⟨v6, rfl, hn6, hb6⟩; obtain ⟨A6, c6, rfl, hc6, hr6⟩ := hn6; have R6 := As.mk hr6; have R56 := As.mk (R5.out.below hb6); have B25 := As.mk (B34.out.trans (hb6.mono (by have := B34.out.size; omega))); have k35 := (B25.out.block _ (by have := SZ.out; have := HB1.out.size; omega)).trans K31.out; have k45 := (B25.out.block _ (by have := SZ.out; have := HB1.out.size; omega)).trans K41.out; have K35 := As.mk k35; have K45 := As.mk k45; have c35 := cell_of_one k35; have f35 := free_of_one k35; have c45 := cell_of_one k45; have f45 := free_of_one k45; clear k35 k45 hr6 hb6))
   have er : rr = a % b := by rw [RR.out, val_dg', XB.out]
   have ne : w.heap.size + 1 + 1 ≠ w.heap.size + 1 + 1 + 1 := by omega
   have ts := two_set ne K35.out K45.out (.slice A5 ((dg (a / b)).length : Nat) c5) (.slice A6 ((dg rr).length : Nat) c6)
   refine bodyPost_ret (ret_tri rfl (w.heap.size + 1 + 1) (w.heap.size + 1 + 1 + 1) (.slice A5 ((dg (a / b)).length : Nat) c5) (.slice A6 ((dg rr).length : Nat) c6) (.int .i64 0) rfl rfl rfl ts.1 ts.2.1) rfl ?_
   rw [← er]
   exact ⟨_, _, rfl, Num.two_set ne K35.out K45.out _ _ ⟨A5, c5, rfl, hc5, R56.out⟩, Num.two_set ne K35.out K45.out _ _ ⟨A6, c6, rfl, hc6, R6.out⟩, below_two (BB.out.trans ((HB1.out.trans (B25.out.mono HB1.out.size)).mono BB.out.size)) (by omega) (by omega) _ _⟩
  ·have l2 : 2 ≤ (dg b).length := by omega
   have lba : (dg b).length ≤ (dg a).length := by
    rcases Nat.lt_or_ge (dg a).length (dg b).length with l | l
    ·exact absurd (len_lt l) LT.out
    ·exact l
   clear l1
   go_wp2_with (first
    | (go_at_call 60; (with_reducible refine CC.out.mono ?_); rintro e w1 ⟨rfl, hb1⟩; have HB1 := As.mk hb1; have k11 := (hb1.block _ (by rw [SZ.out]; omega)).trans K1.out; have k21 := (hb1.block _ (by rw [SZ.out]; omega)).trans K2.out; have k31 := (hb1.block _ (by rw [SZ.out]; omega)).trans K3.out; have k41 := (hb1.block _ (by rw [SZ.out]; omega)).trans K4.out; have K31 := As.mk k31; have K41 := As.mk k41; have c1' := cell_of_one k11; have c2' := cell_of_one k21; have LG := As.mk (long_calls _ _ a b w1 (NA0.out.below hb1) (NB0.out.below hb1) la lba l2); clear hb1 k11 k21 k31 k41)
    | (go_at_call 71; (with_reducible refine LG.out.mono ?_); rintro e w2 ⟨v5, v6, rfl, hn5, hn6, hb2⟩; obtain ⟨A5, c5, rfl, hc5, hr5⟩ := hn5; obtain ⟨A6, c6, rfl, hc6, hr6⟩ := hn6; have R5 := As.mk hr5; have R6 := As.mk hr6; have HB2 := As.mk hb2; have k32 := (hb2.block _ (by have := SZ.out; have := HB1.out.size; omega)).trans K31.out; have k42 := (hb2.block _ (by have := SZ.out; have := HB1.out.size; omega)).trans K41.out; have K32 := As.mk k32; have K42 := As.mk k42; have c32 := cell_of_one k32; have f32 := free_of_one k32; have c42 := cell_of_one k42; have f42 := free_of_one k42; clear hr5 hr6 hb2 k32 k42))
   have ne : w.heap.size + 1 + 1 ≠ w.heap.size + 1 + 1 + 1 := by omega
   have NE := As.mk ne
   clear ne
   obtain ⟨w3, hw3⟩ : ∃ w3, w3 = (w2.setCell ⟨w.heap.size + 1 + 1, 0, none⟩ (.slice A5 ((dg (a / b)).length : Nat) c5)).setCell ⟨w.heap.size + 1 + 1 + 1, 0, none⟩ (.slice A6 ((dg (a % b)).length : Nat) c6) := ⟨_, rfl⟩
   rw [← hw3]
   have ts := two_set NE.out K32.out K42.out (.slice A5 ((dg (a / b)).length : Nat) c5) (.slice A6 ((dg (a % b)).length : Nat) c6)
   have k33 : w3.heap[w.heap.size + 1 + 1]? = some (.cells #[.slice A5 ((dg (a / b)).length : Nat) c5] 66 (0, 0)) := by rw [hw3]; exact ts.1
   have k43 : w3.heap[w.heap.size + 1 + 1 + 1]? = some (.cells #[.slice A6 ((dg (a % b)).length : Nat) c6] 66 (0, 0)) := by rw [hw3]; exact ts.2.1
   have N5 : As (Num w3 (.slice A5 ((dg (a / b)).length : Nat) c5) (a / b)) := ⟨by rw [hw3]; exact Num.two_set NE.out K32.out K42.out _ _ ⟨A5, c5, rfl, hc5, R5.out⟩⟩
   have N6 : As (Num w3 (.slice A6 ((dg (a % b)).length : Nat) c6) (a % b)) := ⟨by rw [hw3]; exact Num.two_set NE.out K32.out K42.out _ _ ⟨A6, c6, rfl, hc6, R6.out⟩⟩
   have B3 : As (Below w.heap.size w w3) := ⟨by rw [hw3]; exact below_two (BB.out.trans ((HB1.out.trans (HB2.out.mono HB1.out.size)).mono BB.out.size)) (by omega) (by omega) _ _⟩
   have K33 := As.mk k33
   have K43 := As.mk k43
   have c33 := cell_of_one k33
   have f33 := free_of_one k33
   have c43 := cell_of_one k43
   have f43 := free_of_one k43
   clear hw3 ts k33 k43 c32 f32 c42 f42
   go_region
   go_wp2
   have ts := two_set NE.out K33.out K43.out (.slice A5 ((dg (a / b)).length : Nat) c5) (.slice A6 ((dg (a % b)).length : Nat) c6)
   refine bodyPost_ret (ret_tri rfl (w.heap.size + 1 + 1) (w.heap.size + 1 + 1 + 1) (.slice A5 ((dg (a / b)).length : Nat) c5) (.slice A6 ((dg (a % b)).length : Nat) c6) (.int .i64 0) rfl rfl rfl ts.1 ts.2.1) rfl ?_
   exact ⟨_, _, rfl, (Num.two_set' NE.out (by simp) (by simp) K33.out K43.out _ _ N5.out).below (Below.refl _ _).drew, (Num.two_set' NE.out (by simp) (by simp) K33.out K43.out _ _ N6.out).below (Below.refl _ _).drew, (below_two B3.out (by omega) (by omega) _ _).drew⟩
end Go.Proofs.Ytllocgmbjjoemaa.Nv
end
section
namespace Go.Proofs.Ytllocgmbjjoemaa.Nv
open Dg
theorem quo_pos (x : Int) (b : Nat) (hb : 0 < b) :
    (0 ≤ x ∨ x.natAbs % b = 0 → (if x < 0 then -((x.natAbs / b : Nat) : Int) else ((x.natAbs / b : Nat) : Int)) = x / (b : Int) ∧ ((x.natAbs % b : Nat) : Int) = x % (b : Int)) ∧
    (x < 0 → x.natAbs % b ≠ 0 → -((x.natAbs / b + 1 : Nat) : Int) = x / (b : Int) ∧ ((b - x.natAbs % b : Nat) : Int) = x % (b : Int)) := by
 have d := Nat.div_add_mod x.natAbs b
 have m := Nat.mod_lt x.natAbs hb
 have hb' : (0 : Int) < (b : Int) := by omega
 have e : (b : Int) * ((x.natAbs / b : Nat) : Int) + ((x.natAbs % b : Nat) : Int) = (x.natAbs : Int) := by
  rw [← Int.natCast_mul, ← Int.natCast_add, d]
 generalize x.natAbs / b = q at *
 generalize hr : x.natAbs % b = r at *
 refine ⟨fun h => ?_, fun h0 hm => ?_⟩
 ·have u := (Int.ediv_emod_unique (a := x) (q := if x < 0 then -(q : Int) else q) (r := (r : Int)) hb').2 ⟨by
    split
    ·next hx =>
     have r0 : r = 0 := by rcases h with h | h <;> omega
     subst r0
     rw [Int.mul_neg]
     omega
    ·omega, by omega, by omega⟩
  exact ⟨u.1.symm, u.2.symm⟩
 ·have u := (Int.ediv_emod_unique (a := x) (q := -((q + 1 : Nat) : Int)) (r := ((b - r : Nat) : Int)) hb').2 ⟨by
    rw [Int.mul_neg, Int.natCast_add, Int.mul_add]
    omega, by omega, by omega⟩
  exact ⟨u.1.symm, u.2.symm⟩
theorem quo_law (x y : Int) (hy : y ≠ 0) :
    (0 ≤ x ∨ x.natAbs % y.natAbs = 0 → (if !(decide (x < 0) == decide (y < 0)) then -((x.natAbs / y.natAbs : Nat) : Int) else ((x.natAbs / y.natAbs : Nat) : Int)) = x / y ∧ ((x.natAbs % y.natAbs : Nat) : Int) = x % y) ∧
    (x < 0 → x.natAbs % y.natAbs ≠ 0 → (if !(decide (x < 0) == decide (y < 0)) then -((x.natAbs / y.natAbs + 1 : Nat) : Int) else ((x.natAbs / y.natAbs + 1 : Nat) : Int)) = x / y ∧ ((y.natAbs - x.natAbs % y.natAbs : Nat) : Int) = x % y) := by
 have b0 : 0 < y.natAbs := by omega
 obtain ⟨p, q⟩ := quo_pos x y.natAbs b0
 rcases (show y < 0 ∨ 0 < y by omega) with ny | py
 ·have ey : (y.natAbs : Int) = -y := by omega
  rw [ey, Int.ediv_neg, Int.emod_neg] at p q
  refine ⟨fun h => ?_, fun h0 hm => ?_⟩
  ·obtain ⟨p1, p2⟩ := p h
   refine ⟨?_, p2⟩
   rw [decide_eq_true ny]
   by_cases hx : x < 0
   ·rw [if_pos hx] at p1
    rw [decide_eq_true hx]; simp; omega
   ·rw [if_neg hx] at p1
    rw [decide_eq_false hx]; simp; omega
  ·obtain ⟨p1, p2⟩ := q h0 hm
   refine ⟨?_, p2⟩
   rw [decide_eq_true ny, decide_eq_true h0]; simp; omega
 ·have ey : (y.natAbs : Int) = y := by omega
  rw [ey] at p q
  refine ⟨fun h => ?_, fun h0 hm => ?_⟩
  ·obtain ⟨p1, p2⟩ := p h
   refine ⟨?_, p2⟩
   rw [decide_eq_false (show ¬ y < 0 by omega)]
   by_cases hx : x < 0
   ·rw [if_pos hx] at p1
    rw [decide_eq_true hx]; simp; omega
   ·rw [if_neg hx] at p1
    rw [decide_eq_false hx]; simp; omega
  ·obtain ⟨p1, p2⟩ := q h0 hm
   refine ⟨?_, p2⟩
   rw [decide_eq_false (show ¬ y < 0 by omega), decide_eq_true h0]; simp; omega
def sgn (b y : Int) : Int := if b < 0 then -y else y
end Go.Proofs.Ytllocgmbjjoemaa.Nv
end
