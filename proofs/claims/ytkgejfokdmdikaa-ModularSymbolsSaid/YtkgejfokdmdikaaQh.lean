/- Derived.Test.YtkgejfokdmdikaaPModularRootsx0 Derived.Test.YtkgejfokdmdikaaPModularRootsx1 Derived.Test.YtkgejfokdmdikaaPModularRootsx2 -/
import Derived.Test.YtkgejfokdmdikaaProg
import Derived.Below
import Derived.Deep.Draws
import Derived.Deep.AppendLies
import Derived.Maps.AppendAt
import Derived.OwnWalk
import Derived.Laws.BytesArg
import Derived.Laws.MakeOwn
import Derived.Laws.OwnMore
import Derived.Deep.OwnRows
import Derived.Tactics
import Derived.Lib.ConvBytes
import Derived.Laws.Slices
import Derived.WalkKit
import Derived.KernelRfl
import Derived.RowKit3
import Derived.Deep.LoopGhost
import Derived.Deep.QuietTactic
import Derived.BigQuiet
import Derived.WideLaws
import Derived.Deep.DeepCutAuto
import Derived.Deep.CutBlock
import Derived.Deep.RegionHeld3
import Derived.Laws.Rows
import Derived.Lib.AppendStr
import Derived.ArgAppend
import Derived.Laws.IdiomCopy
import Derived.OrdersHeld
import Derived.Laws.BitsLemmas
import Derived.RowKit
import Derived.Test.YtkgejfokdmdikaaQg
import Derived.Test.YtkgejfokdmdikaaQc
import Derived.Test.YtkgejfokdmdikaaQa
import Derived.WalkMore
section
namespace Go.Proofs.Ytkgejfokdmdikaa.PModularRoots
open Go.RowKit Go.Proofs.YtkgejfokdmdikaaW.PrintWords Go.Proofs.YtkgejfokdmdikaaW.PrintLast Go.Proofs.YtkgejfokdmdikaaW.PrintMore
attribute [local go_sem] max2_int min2_int max_two min_two max_three min_three max_four min_four   -- for this text's walks alone
set_option linter.unusedVariables false
set_option linter.unusedSimpArgs false
def errW : Option Int → Value
  | none => .nilIface
  | some c => .iface 0 (.int .i64 c)
theorem errW_none : errW none = .nilIface := rfl
theorem errW_some (c : Int) : errW (some c) = .iface 0 (.int .i64 c) := rfl
end Go.Proofs.Ytkgejfokdmdikaa.PModularRoots
end
section
namespace Go.Proofs.Ytkgejfokdmdikaa.PModularRoots
open Go.RowKit Go.Proofs.YtkgejfokdmdikaaW.PrintWords Go.Proofs.YtkgejfokdmdikaaW.PrintLast Go.Proofs.YtkgejfokdmdikaaW.PrintMore
attribute [local go_sem] max2_int min2_int max_two min_two max_three min_three max_four min_four   -- for this text's walks alone
set_option linter.unusedVariables false
set_option linter.unusedSimpArgs false
def modular_least.l0 : Nat → Int → Int → Option (Int)
  | 0, _, _ => none
  | k + 1, x0, x3 => if (wrap64 (x3 * x3)) ≤ x0 then (if x3 = 0 then (none) else (if (Int.tmod x0 x3) = 0 then (if (wrap64 (x3 * x3)) > x0 then (some x0) else (some x3)) else (modular_least.l0 k x0 (wrap64 (x3 + (wrap64 (1 + (Go.bits .and .i64 x3 1)))))))) else (if (wrap64 (x3 * x3)) > x0 then (some x0) else (some x3))
def modular_least.f (k : Nat) (a0 : Int) : Option (Int) := modular_least.l0 k a0 2
set_option maxHeartbeats 8000000 in
set_option maxRecDepth 100000 in
theorem modular_least.calls (k : Nat) (a0 : Int) (r : Int) (w : World) (h : modular_least.f k a0 = some r) :
    Calls Try.prog 41 #[.int .i64 a0] w fun e w' => e = .returned (.int .i64 r) ∧ Drawn0 w w' := by
  have H : (modular_least.l0 k a0 2) = some r := h
  clear h
  have H' := Aside0.mk H
  clear H
  go_enter Try.func41, Try.ntmps41
  (go_wp2; repeat (go_step3; go_wp2))
  go_loopg [3] k (fun kq v3 w' => ∃ (x3_1 : Int), v3 = .int .i64 x3_1 ∧ Aside0 (modular_least.l0 kq a0 x3_1 = some r) ∧ Aside0 (kq ≤ k) ∧ Drawn0 w w')
  case atStart => exact ⟨(2), (by first | rfl | (simp; done) | (simp [*]; done)), H', ⟨Nat.le_refl _⟩, by repeat (first | exact Drawn0.refl _ | apply Drawn0.step)⟩
  case round =>
    clear H'
    obtain ⟨x3_1, rfl, HA, HK1, ⟨m1, rfl⟩⟩ := hrel
    cases gk with
    | zero => exact absurd HA.out (by simp [modular_least.l0])
    | succ k1 =>
      have H := HA.out
      clear HA
      simp only [modular_least.l0] at H
      by_cases c2 : (wrap64 (x3_1 * x3_1)) ≤ a0
      · rw [if_pos c2] at H
        have c2b0 : decide ((wrap64 (x3_1 * x3_1)) ≤ a0) = true := decide_eq_true c2
        clear c2
        by_cases c3 : x3_1 = 0
        · rw [if_pos c3] at H
          exact absurd H (by simp)
        · rw [if_neg c3] at H
          have c3b0 : (x3_1 == 0) = false := beq_eq_false_iff_ne.mpr c3
          have c3b1 : (x3_1 != 0) = true := bne_iff_ne.mpr c3
          by_cases c4 : (Int.tmod a0 x3_1) = 0
          · rw [if_pos c4] at H
            have c4b0 : ((Int.tmod a0 x3_1) == 0) = true := beq_iff_eq.mpr c4
            have c4b1 : ((Int.tmod a0 x3_1) != 0) = false := bne_eq_false_iff_eq.mpr c4
            clear c4
            by_cases c5 : (wrap64 (x3_1 * x3_1)) > a0
            · rw [if_pos c5] at H
              have c5b0 : decide (a0 < (wrap64 (x3_1 * x3_1))) = true := decide_eq_true c5
              clear c5
              obtain rfl := Option.some.inj H
              (go_wp2; repeat (go_step3; go_wp2))
              go_ret
              exact ⟨by first | rfl | (simp; done) | (simp [*]; done), by repeat (first | exact Drawn0.refl _ | apply Drawn0.step)⟩
            · rw [if_neg c5] at H
              have c5b0 : decide (a0 < (wrap64 (x3_1 * x3_1))) = false := decide_eq_false c5
              clear c5
              obtain rfl := Option.some.inj H
              (go_wp2; repeat (go_step3; go_wp2))
              go_ret
              exact ⟨by first | rfl | (simp; done) | (simp [*]; done), by repeat (first | exact Drawn0.refl _ | apply Drawn0.step)⟩
          · rw [if_neg c4] at H
            have c4b0 : ((Int.tmod a0 x3_1) == 0) = false := beq_eq_false_iff_ne.mpr c4
            have c4b1 : ((Int.tmod a0 x3_1) != 0) = true := bne_iff_ne.mpr c4
            have H' := Aside0.mk H
            clear H
            (go_wp2; repeat (go_step3; go_wp2))
            go_roundg k1
            case measure => have := HK1.out; omega
            case rel => exact ⟨(wrap64 (x3_1 + (wrap64 (1 + (Go.bits .and .i64 x3_1 1))))), (by first | rfl | (simp; done) | (simp [*]; done)), H', ⟨by have := HK1.out; omega⟩, by repeat (first | exact Drawn0.refl _ | apply Drawn0.step)⟩
      · rw [if_neg c2] at H
        have c2b0 : decide ((wrap64 (x3_1 * x3_1)) ≤ a0) = false := decide_eq_false c2
        clear c2
        by_cases c6 : (wrap64 (x3_1 * x3_1)) > a0
        · rw [if_pos c6] at H
          have c6b0 : decide (a0 < (wrap64 (x3_1 * x3_1))) = true := decide_eq_true c6
          clear c6
          obtain rfl := Option.some.inj H
          (go_wp2; repeat (go_step3; go_wp2))
          go_ret
          exact ⟨by first | rfl | (simp; done) | (simp [*]; done), by repeat (first | exact Drawn0.refl _ | apply Drawn0.step)⟩
        · rw [if_neg c6] at H
          have c6b0 : decide (a0 < (wrap64 (x3_1 * x3_1))) = false := decide_eq_false c6
          clear c6
          obtain rfl := Option.some.inj H
          (go_wp2; repeat (go_step3; go_wp2))
          go_ret
          exact ⟨by first | rfl | (simp; done) | (simp [*]; done), by repeat (first | exact Drawn0.refl _ | apply Drawn0.step)⟩
def modular_Prime.f (k : Nat) (a0 : Int) : Option (Bool × Int) := if a0 > 1099511627776 then (some (false, 3)) else (if a0 < 2 then (some (false, 0)) else ((modular_least.f k a0).bind fun t101 => (some ((t101 == a0), 0))))
set_option maxHeartbeats 8000000 in
set_option maxRecDepth 100000 in
theorem modular_Prime.calls (k : Nat) (a0 : Int) (r1 : Bool) (r2 : Int) (w : World) (h : modular_Prime.f k a0 = some (r1, r2)) :
    Calls Try.prog 17 #[.int .i64 a0] w fun e w' => e = .returned (.tuple #[.bool r1, .int .i64 r2]) ∧ Drawn0 w w' := by
  have H : (if a0 > 1099511627776 then (some (false, 3)) else (if a0 < 2 then (some (false, 0)) else ((modular_least.f k a0).bind fun t101 => (some ((t101 == a0), 0))))) = some (r1, r2) := h
  clear h
  by_cases c2 : a0 > 1099511627776
  · rw [if_pos c2] at H
    have c2b0 : decide (1099511627776 < a0) = true := decide_eq_true c2
    clear c2
    simp only [Option.some.injEq, Prod.mk.injEq] at H
    obtain ⟨rfl, rfl⟩ := H
    go_enter Try.func17, Try.ntmps17
    go_wp2
    go_ret2
    exact ⟨by first | rfl | (simp; done) | (simp [*]; done), by repeat (first | exact Drawn0.refl _ | apply Drawn0.step)⟩
  · rw [if_neg c2] at H
    have c2b0 : decide (1099511627776 < a0) = false := decide_eq_false c2
    clear c2
    by_cases c3 : a0 < 2
    · rw [if_pos c3] at H
      have c3b0 : decide (a0 < 2) = true := decide_eq_true c3
      clear c3
      simp only [Option.some.injEq, Prod.mk.injEq] at H
      obtain ⟨rfl, rfl⟩ := H
      go_enter Try.func17, Try.ntmps17
      go_wp2
      go_ret2
      exact ⟨by first | rfl | (simp; done) | (simp [*]; done), by repeat (first | exact Drawn0.refl _ | apply Drawn0.step)⟩
    · rw [if_neg c3] at H
      have c3b0 : decide (a0 < 2) = false := decide_eq_false c3
      clear c3
      replace H := Option.bind_eq_some_iff.mp H
      obtain ⟨t101, A40, H⟩ := H
      replace H : (some ((t101 == a0), 0)) = some (r1, r2) := H
      have A4 := Aside0.mk A40
      clear A40
      simp only [Option.some.injEq, Prod.mk.injEq] at H
      obtain ⟨rfl, rfl⟩ := H
      go_enter Try.func17, Try.ntmps17
      go_wp2_with (first | ((with_reducible refine gate_callee (f := 41) rfl ?_); refine goesL_ (some 11) rfl rfl Try.func41 (by kernel_rfl) rfl #[.int .i64 a0] rfl (by (try simp only [List.map_toArray, List.map_cons, List.map_nil]); first | done | rfl | (simp only [List.length_drop, List.length_take]; rfl)) ?_; (with_reducible refine (modular_least.calls k a0 t101 _ A4.out).mono ?_); rintro e w' ⟨rfl, ⟨nd, rfl⟩⟩; refine ⟨_, rfl, ?_⟩))
      go_ret2
      exact ⟨by first | rfl | (simp; done) | (simp [*]; done), by repeat (first | exact Drawn0.refl _ | apply Drawn0.step)⟩
mutual
def modular_Root.l0 : Nat → Int → Int → Int → Int → Option (Int × Int)
  | 0, _, _, _, _ => none
  | k + 1, x0, x1, x8, x9 => if (Go.bits .and .i64 x8 1) = 0 then (modular_Root.l0 k x0 x1 (x8 / 2) (wrap64 (x9 + 1))) else (modular_Root.l1 k x0 x1 x8 x9 2)
def modular_Root.l1 : Nat → Int → Int → Int → Int → Int → Option (Int × Int)
  | 0, _, _, _, _, _ => none
  | k + 1, x0, x1, x8, x9, x10 => (modular_Kronecker.f x10 x1).bind fun t106 => (if t106 = (-1) then ((modular_to.f x10 x8 x1).bind fun t107 => ((modular_to.f x0 (wrap64 (Int.tdiv (wrap64 (x8 + 1)) 2)) x1).bind fun t108 => ((modular_to.f x0 x8 x1).bind fun t109 => (modular_Root.l2 k x1 x9 t107 t108 t109)))) else (modular_Root.l1 k x0 x1 x8 x9 (wrap64 (x10 + 1))))
def modular_Root.l2 : Nat → Int → Int → Int → Int → Int → Option (Int × Int)
  | 0, _, _, _, _, _ => none
  | k + 1, x1, x9, x11, x12, x13 => if x13 = 1 then (some (mn x12 (wrap64 (x1 - x12)), 0)) else (modular_Root.l3 k x1 x9 x11 x12 x13 0 x13)
def modular_Root.l3 : Nat → Int → Int → Int → Int → Int → Int → Int → Option (Int × Int)
  | 0, _, _, _, _, _, _, _ => none
  | k + 1, x1, x9, x11, x12, x13, x14, x15 => if x15 = 1 then (modular_Root.l4 k x1 x9 x11 x12 x13 x14) else ((modular_times.f x15 x15 x1).bind fun t110 => (modular_Root.l3 k x1 x9 x11 x12 x13 (wrap64 (x14 + 1)) t110))
def modular_Root.l4 : Nat → Int → Int → Int → Int → Int → Int → Option (Int × Int)
  | 0, _, _, _, _, _, _ => none
  | k + 1, x1, x9, x11, x12, x13, x14 => if x9 > (wrap64 (x14 + 1)) then ((modular_times.f x11 x11 x1).bind fun t111 => (modular_Root.l4 k x1 (wrap64 (x9 - 1)) t111 x12 x13 x14)) else ((modular_times.f x12 x11 x1).bind fun t112 => ((modular_times.f x11 x11 x1).bind fun t113 => ((modular_times.f x13 t113 x1).bind fun t114 => (modular_Root.l2 k x1 x14 t113 t112 t114))))
end
def modular_Root.f (k : Nat) (a0 : Int) (a1 : Int) : Option (Int × Int) := if a1 < 3 then (some (0, 2)) else ((modular_Prime.f k a1).bind fun bt102 => (if bt102.2 = 0 then (if bt102.1 = true then ((modular_mod.f a0 a1).bind fun t104 => ((modular_Kronecker.f t104 a1).bind fun t105 => (if t105 = 0 then (some (0, 0)) else (if t105 = (-1) then (some (0, 41)) else (modular_Root.l0 k t104 a1 (wrap64 (a1 - 1)) 0))))) else (some (0, 40))) else (some (0, bt102.2))))
set_option maxHeartbeats 8000000 in
set_option maxRecDepth 100000 in
theorem modular_Root.calls (k : Nat) (a0 : Int) (a1 : Int) (r1 : Int) (r2 : Int) (w : World) (h : modular_Root.f k a0 a1 = some (r1, r2)) :
    Calls Try.prog 15 #[.int .i64 a0, .int .i64 a1] w fun e w' => e = .returned (.tuple #[.int .i64 r1, .int .i64 r2]) ∧ Below w.heap.size w w' := by
  have HB := Aside0.mk (Below.refl w.heap.size w)
  have H : (if a1 < 3 then (some (0, 2)) else ((modular_Prime.f k a1).bind fun bt102 => (if bt102.2 = 0 then (if bt102.1 = true then ((modular_mod.f a0 a1).bind fun t104 => ((modular_Kronecker.f t104 a1).bind fun t105 => (if t105 = 0 then (some (0, 0)) else (if t105 = (-1) then (some (0, 41)) else (modular_Root.l0 k t104 a1 (wrap64 (a1 - 1)) 0))))) else (some (0, 40))) else (some (0, bt102.2))))) = some (r1, r2) := h
  clear h
  by_cases c3 : a1 < 3
  · rw [if_pos c3] at H
    have c3b0 : decide (a1 < 3) = true := decide_eq_true c3
    clear c3
    simp only [Option.some.injEq, Prod.mk.injEq] at H
    obtain ⟨rfl, rfl⟩ := H
    go_enter Try.func15, Try.ntmps15
    go_wp2
    go_ret2
    exact ⟨by first | rfl | (simp [errW_none, errW_some] <;> rfl) | (simp [*, errW_none, errW_some] <;> rfl), by repeat (first | (with_reducible first | exact HB.out | apply below_alloc | apply pw_below_drewN | apply below_drew1) | exact HB.out)⟩
  · rw [if_neg c3] at H
    have c3b0 : decide (a1 < 3) = false := decide_eq_false c3
    clear c3
    replace H := Option.bind_eq_some_iff.mp H
    obtain ⟨⟨t102, t103⟩, A40, H⟩ := H
    replace H : (if t103 = 0 then (if t102 = true then ((modular_mod.f a0 a1).bind fun t104 => ((modular_Kronecker.f t104 a1).bind fun t105 => (if t105 = 0 then (some (0, 0)) else (if t105 = (-1) then (some (0, 41)) else (modular_Root.l0 k t104 a1 (wrap64 (a1 - 1)) 0))))) else (some (0, 40))) else (some (0, t103))) = some (r1, r2) := H
    have A4 := Aside0.mk A40
    clear A40
    by_cases c5 : t103 = 0
    · rw [if_pos c5] at H
      have c5b0 : (t103 == 0) = true := beq_iff_eq.mpr c5
      have c5b1 : (t103 != 0) = false := bne_eq_false_iff_eq.mpr c5
      clear c5
      by_cases c6 : t102 = true
      · subst c6
        have H1 : ((modular_mod.f a0 a1).bind fun t104 => ((modular_Kronecker.f t104 a1).bind fun t105 => (if t105 = 0 then (some (0, 0)) else (if t105 = (-1) then (some (0, 41)) else (modular_Root.l0 k t104 a1 (wrap64 (a1 - 1)) 0))))) = some (r1, r2) := by rw [if_pos rfl] at H; exact H
        clear H
        have H := H1
        clear H1
        replace H := Option.bind_eq_some_iff.mp H
        obtain ⟨t104, A70, H⟩ := H
        replace H : ((modular_Kronecker.f t104 a1).bind fun t105 => (if t105 = 0 then (some (0, 0)) else (if t105 = (-1) then (some (0, 41)) else (modular_Root.l0 k t104 a1 (wrap64 (a1 - 1)) 0)))) = some (r1, r2) := H
        have A7 := Aside0.mk A70
        clear A70
        replace H := Option.bind_eq_some_iff.mp H
        obtain ⟨t105, A80, H⟩ := H
        replace H : (if t105 = 0 then (some (0, 0)) else (if t105 = (-1) then (some (0, 41)) else (modular_Root.l0 k t104 a1 (wrap64 (a1 - 1)) 0))) = some (r1, r2) := H
        have A8 := Aside0.mk A80
        clear A80
        by_cases c9 : t105 = 0
        · rw [if_pos c9] at H
          have c9b0 : (t105 == 0) = true := beq_iff_eq.mpr c9
          have c9b1 : (t105 != 0) = false := bne_eq_false_iff_eq.mpr c9
          clear c9
          simp only [Option.some.injEq, Prod.mk.injEq] at H
          obtain ⟨rfl, rfl⟩ := H
          go_enter Try.func15, Try.ntmps15
          go_wp2_with (first | ((with_reducible refine gate_callee (f := 17) rfl ?_); refine goesL_ (some 20) rfl rfl Try.func17 (by kernel_rfl) rfl #[.int .i64 a1] rfl (by (try simp only [List.map_toArray, List.map_cons, List.map_nil]); first | done | rfl | (simp only [List.length_drop, List.length_take]; rfl)) ?_; (with_reducible refine (modular_Prime.calls k a1 true t103 _ A4.out).mono ?_); rintro e w' ⟨rfl, ⟨nd, rfl⟩⟩; refine ⟨_, rfl, ?_⟩) | ((with_reducible refine gate_callee (f := 36) rfl ?_); refine goesL_ (some 32) rfl rfl Try.func36 (by kernel_rfl) rfl #[.int .i64 a0, .int .i64 a1] rfl (by (try simp only [List.map_toArray, List.map_cons, List.map_nil]); first | done | rfl | (simp only [List.length_drop, List.length_take]; rfl)) ?_; (with_reducible refine (modular_mod.calls a0 a1 t104 _ A7.out).mono ?_); rintro e w' ⟨rfl, ⟨nd, rfl⟩⟩; refine ⟨_, rfl, ?_⟩) | ((with_reducible refine gate_callee (f := 12) rfl ?_); refine goesL_ (some 35) rfl rfl Try.func12 (by kernel_rfl) rfl #[.int .i64 t104, .int .i64 a1] rfl (by (try simp only [List.map_toArray, List.map_cons, List.map_nil]); first | done | rfl | (simp only [List.length_drop, List.length_take]; rfl)) ?_; (with_reducible refine (modular_Kronecker.calls t104 a1 t105 _ A8.out).mono ?_); rintro e w' ⟨rfl, ⟨nd, rfl⟩⟩; refine ⟨_, rfl, ?_⟩))
          go_ret2
          exact ⟨by first | rfl | (simp [errW_none, errW_some] <;> rfl) | (simp [*, errW_none, errW_some] <;> rfl), by repeat (first | (with_reducible first | exact HB.out | apply below_alloc | apply pw_below_drewN | apply below_drew1) | exact HB.out)⟩
        · rw [if_neg c9] at H
          have c9b0 : (t105 == 0) = false := beq_eq_false_iff_ne.mpr c9
          have c9b1 : (t105 != 0) = true := bne_iff_ne.mpr c9
          by_cases c10 : t105 = (-1)
          · rw [if_pos c10] at H
            have c10b0 : (t105 == (-1)) = true := beq_iff_eq.mpr c10
            have c10b1 : (t105 != (-1)) = false := bne_eq_false_iff_eq.mpr c10
            clear c10
            simp only [Option.some.injEq, Prod.mk.injEq] at H
            obtain ⟨rfl, rfl⟩ := H
            go_enter Try.func15, Try.ntmps15
            go_wp2_with (first | ((with_reducible refine gate_callee (f := 17) rfl ?_); refine goesL_ (some 20) rfl rfl Try.func17 (by kernel_rfl) rfl #[.int .i64 a1] rfl (by (try simp only [List.map_toArray, List.map_cons, List.map_nil]); first | done | rfl | (simp only [List.length_drop, List.length_take]; rfl)) ?_; (with_reducible refine (modular_Prime.calls k a1 true t103 _ A4.out).mono ?_); rintro e w' ⟨rfl, ⟨nd, rfl⟩⟩; refine ⟨_, rfl, ?_⟩) | ((with_reducible refine gate_callee (f := 36) rfl ?_); refine goesL_ (some 32) rfl rfl Try.func36 (by kernel_rfl) rfl #[.int .i64 a0, .int .i64 a1] rfl (by (try simp only [List.map_toArray, List.map_cons, List.map_nil]); first | done | rfl | (simp only [List.length_drop, List.length_take]; rfl)) ?_; (with_reducible refine (modular_mod.calls a0 a1 t104 _ A7.out).mono ?_); rintro e w' ⟨rfl, ⟨nd, rfl⟩⟩; refine ⟨_, rfl, ?_⟩) | ((with_reducible refine gate_callee (f := 12) rfl ?_); refine goesL_ (some 35) rfl rfl Try.func12 (by kernel_rfl) rfl #[.int .i64 t104, .int .i64 a1] rfl (by (try simp only [List.map_toArray, List.map_cons, List.map_nil]); first | done | rfl | (simp only [List.length_drop, List.length_take]; rfl)) ?_; (with_reducible refine (modular_Kronecker.calls t104 a1 t105 _ A8.out).mono ?_); rintro e w' ⟨rfl, ⟨nd, rfl⟩⟩; refine ⟨_, rfl, ?_⟩))
            go_ret2
            exact ⟨by first | rfl | (simp [errW_none, errW_some] <;> rfl) | (simp [*, errW_none, errW_some] <;> rfl), by repeat (first | (with_reducible first | exact HB.out | apply below_alloc | apply pw_below_drewN | apply below_drew1) | exact HB.out)⟩
          · rw [if_neg c10] at H
            have c10b0 : (t105 == (-1)) = false := beq_eq_false_iff_ne.mpr c10
            have c10b1 : (t105 != (-1)) = true := bne_iff_ne.mpr c10
            have H' := Aside0.mk H
            clear H
            go_enter Try.func15, Try.ntmps15
            go_wp2_with (first | ((with_reducible refine gate_callee (f := 17) rfl ?_); refine goesL_ (some 20) rfl rfl Try.func17 (by kernel_rfl) rfl #[.int .i64 a1] rfl (by (try simp only [List.map_toArray, List.map_cons, List.map_nil]); first | done | rfl | (simp only [List.length_drop, List.length_take]; rfl)) ?_; (with_reducible refine (modular_Prime.calls k a1 true t103 _ A4.out).mono ?_); rintro e w' ⟨rfl, ⟨nd, rfl⟩⟩; refine ⟨_, rfl, ?_⟩) | ((with_reducible refine gate_callee (f := 36) rfl ?_); refine goesL_ (some 32) rfl rfl Try.func36 (by kernel_rfl) rfl #[.int .i64 a0, .int .i64 a1] rfl (by (try simp only [List.map_toArray, List.map_cons, List.map_nil]); first | done | rfl | (simp only [List.length_drop, List.length_take]; rfl)) ?_; (with_reducible refine (modular_mod.calls a0 a1 t104 _ A7.out).mono ?_); rintro e w' ⟨rfl, ⟨nd, rfl⟩⟩; refine ⟨_, rfl, ?_⟩) | ((with_reducible refine gate_callee (f := 12) rfl ?_); refine goesL_ (some 35) rfl rfl Try.func12 (by kernel_rfl) rfl #[.int .i64 t104, .int .i64 a1] rfl (by (try simp only [List.map_toArray, List.map_cons, List.map_nil]); first | done | rfl | (simp only [List.length_drop, List.length_take]; rfl)) ?_; (with_reducible refine (modular_Kronecker.calls t104 a1 t105 _ A8.out).mono ?_); rintro e w' ⟨rfl, ⟨nd, rfl⟩⟩; refine ⟨_, rfl, ?_⟩))
            go_loopg [8, 9] k (fun kq v8 v9 w' => ∃ (x8_1 : Int) (x9_1 : Int), v8 = .int .i64 x8_1 ∧ v9 = .int .i64 x9_1 ∧ Aside0 (modular_Root.l0 kq t104 a1 x8_1 x9_1 = some (r1, r2)) ∧ Aside0 (kq ≤ k) ∧ Aside0 (Below w.heap.size w w'))
            case atStart => exact ⟨(wrap64 (a1 - 1)), (0), (by first | rfl | (simp; done) | (simp [*]; done)), (by first | rfl | (simp; done) | (simp [*]; done)), H', ⟨Nat.le_refl _⟩, ⟨by repeat (first | (with_reducible first | exact HB.out | apply below_alloc | apply pw_below_drewN | apply below_drew1) | exact HB.out)⟩⟩
            case round =>
              clear H'
              try clear c1
              try clear p2
              try clear c3
              try clear c3b0
              try clear c5
              try clear c5b0
              try clear c5b1
              try clear c6
              try clear p6
              try clear c9
              try clear c9b0
              try clear c9b1
              try clear c10
              try clear c10b0
              try clear c10b1
              obtain ⟨x8_1, x9_1, rfl, rfl, HA, HK1, HB⟩ := hrel
              cases gk with
              | zero => exact absurd HA.out (by simp [modular_Root.l0])
              | succ k1 =>
                have H := HA.out
                clear HA
                simp only [modular_Root.l0] at H
                by_cases c11 : (Go.bits .and .i64 x8_1 1) = 0
                · rw [if_pos c11] at H
                  have c11b0 : ((Go.bits .and .i64 x8_1 1) == 0) = true := beq_iff_eq.mpr c11
                  have c11b1 : ((Go.bits .and .i64 x8_1 1) != 0) = false := bne_eq_false_iff_eq.mpr c11
                  clear c11
                  have H' := Aside0.mk H
                  clear H
                  go_wp2
                  go_roundg k1
                  case measure => have := HK1.out; omega
                  case rel => exact ⟨(x8_1 / 2), (wrap64 (x9_1 + 1)), (by first | rfl | (simp; done) | (simp [*]; done)), (by first | rfl | (simp; done) | (simp [*]; done)), H', ⟨by have := HK1.out; omega⟩, ⟨by repeat (first | (with_reducible first | exact HB.out | apply below_alloc | apply pw_below_drewN | apply below_drew1) | exact HB.out)⟩⟩
                · rw [if_neg c11] at H
                  have c11b0 : ((Go.bits .and .i64 x8_1 1) == 0) = false := beq_eq_false_iff_ne.mpr c11
                  have c11b1 : ((Go.bits .and .i64 x8_1 1) != 0) = true := bne_iff_ne.mpr c11
                  have H' := Aside0.mk H
                  clear H
                  go_wp2
                  go_loopg [10] k1 (fun kq v10 w' => ∃ (x10_2 : Int), v10 = .int .i64 x10_2 ∧ Aside0 (modular_Root.l1 kq t104 a1 x8_1 x9_1 x10_2 = some (r1, r2)) ∧ Aside0 (kq ≤ k1) ∧ Aside0 (Below w.heap.size w w'))
                  case atStart => exact ⟨(2), (by first | rfl | (simp; done) | (simp [*]; done)), H', ⟨Nat.le_refl _⟩, ⟨by repeat (first | (with_reducible first | exact HB.out | apply below_alloc | apply pw_below_drewN | apply below_drew1) | exact HB.out)⟩⟩
                  case round =>
                    clear H'
                    try clear c1
                    try clear p2
                    try clear c3
                    try clear c3b0
                    try clear c5
                    try clear c5b0
                    try clear c5b1
                    try clear c6
                    try clear p6
                    try clear c9
                    try clear c9b0
                    try clear c9b1
                    try clear c10
                    try clear c10b0
                    try clear c10b1
                    try clear c11
                    try clear c11b0
                    try clear c11b1
                    try clear p2
                    try clear p6
                    obtain ⟨x10_2, rfl, HA, HK2, HB⟩ := hrel
                    cases gk with
                    | zero => exact absurd HA.out (by simp [modular_Root.l1])
                    | succ k2 =>
                      have H := HA.out
                      clear HA
                      simp only [modular_Root.l1] at H
                      replace H := Option.bind_eq_some_iff.mp H
                      obtain ⟨t106, A120, H⟩ := H
                      replace H : (if t106 = (-1) then ((modular_to.f x10_2 x8_1 a1).bind fun t107 => ((modular_to.f t104 (wrap64 (Int.tdiv (wrap64 (x8_1 + 1)) 2)) a1).bind fun t108 => ((modular_to.f t104 x8_1 a1).bind fun t109 => (modular_Root.l2 k2 a1 x9_1 t107 t108 t109)))) else (modular_Root.l1 k2 t104 a1 x8_1 x9_1 (wrap64 (x10_2 + 1)))) = some (r1, r2) := H
                      have A12 := Aside0.mk A120
                      clear A120
                      by_cases c13 : t106 = (-1)
                      · rw [if_pos c13] at H
                        have c13b0 : (t106 == (-1)) = true := beq_iff_eq.mpr c13
                        have c13b1 : (t106 != (-1)) = false := bne_eq_false_iff_eq.mpr c13
                        clear c13
                        replace H := Option.bind_eq_some_iff.mp H
                        obtain ⟨t107, A140, H⟩ := H
                        replace H : ((modular_to.f t104 (wrap64 (Int.tdiv (wrap64 (x8_1 + 1)) 2)) a1).bind fun t108 => ((modular_to.f t104 x8_1 a1).bind fun t109 => (modular_Root.l2 k2 a1 x9_1 t107 t108 t109))) = some (r1, r2) := H
                        have A14 := Aside0.mk A140
                        clear A140
                        replace H := Option.bind_eq_some_iff.mp H
                        obtain ⟨t108, A150, H⟩ := H
                        replace H : ((modular_to.f t104 x8_1 a1).bind fun t109 => (modular_Root.l2 k2 a1 x9_1 t107 t108 t109)) = some (r1, r2) := H
                        have A15 := Aside0.mk A150
                        clear A150
                        replace H := Option.bind_eq_some_iff.mp H
                        obtain ⟨t109, A160, H⟩ := H
                        replace H : (modular_Root.l2 k2 a1 x9_1 t107 t108 t109) = some (r1, r2) := H
                        have A16 := Aside0.mk A160
                        clear A160
                        have H' := Aside0.mk H
                        clear H
                        go_wp2_with (first | ((with_reducible refine gate_callee (f := 12) rfl ?_); refine goesL_ (some 51) rfl rfl Try.func12 (by kernel_rfl) rfl #[.int .i64 x10_2, .int .i64 a1] rfl (by (try simp only [List.map_toArray, List.map_cons, List.map_nil]); first | done | rfl | (simp only [List.length_drop, List.length_take]; rfl)) ?_; (with_reducible refine (modular_Kronecker.calls x10_2 a1 t106 _ A12.out).mono ?_); rintro e w' ⟨rfl, ⟨nd, rfl⟩⟩; refine ⟨_, rfl, ?_⟩) | ((with_reducible refine gate_callee (f := 37) rfl ?_); refine goesL_ (some 58) rfl rfl Try.func37 (by kernel_rfl) rfl #[.int .i64 x10_2, .int .i64 x8_1, .int .i64 a1] rfl (by (try simp only [List.map_toArray, List.map_cons, List.map_nil]); first | done | rfl | (simp only [List.length_drop, List.length_take]; rfl)) ?_; (with_reducible refine (modular_to.calls x10_2 x8_1 a1 t107 _ A14.out).mono ?_); rintro e w' ⟨rfl, ⟨nd, rfl⟩⟩; refine ⟨_, rfl, ?_⟩) | ((with_reducible refine gate_callee (f := 37) rfl ?_); refine goesL_ (some 64) rfl rfl Try.func37 (by kernel_rfl) rfl #[.int .i64 t104, .int .i64 (wrap64 (Int.tdiv (wrap64 (x8_1 + 1)) 2)), .int .i64 a1] rfl (by (try simp only [List.map_toArray, List.map_cons, List.map_nil]); first | done | rfl | (simp only [List.length_drop, List.length_take]; rfl)) ?_; (with_reducible refine (modular_to.calls t104 (wrap64 (Int.tdiv (wrap64 (x8_1 + 1)) 2)) a1 t108 _ A15.out).mono ?_); rintro e w' ⟨rfl, ⟨nd, rfl⟩⟩; refine ⟨_, rfl, ?_⟩) | ((with_reducible refine gate_callee (f := 37) rfl ?_); refine goesL_ (some 68) rfl rfl Try.func37 (by kernel_rfl) rfl #[.int .i64 t104, .int .i64 x8_1, .int .i64 a1] rfl (by (try simp only [List.map_toArray, List.map_cons, List.map_nil]); first | done | rfl | (simp only [List.length_drop, List.length_take]; rfl)) ?_; (with_reducible refine (modular_to.calls t104 x8_1 a1 t109 _ A16.out).mono ?_); rintro e w' ⟨rfl, ⟨nd, rfl⟩⟩; refine ⟨_, rfl, ?_⟩))
                        go_loopg [9, 11, 12, 13] k2 (fun kq v9 v11 v12 v13 w' => ∃ (x9_3 : Int) (x11_3 : Int) (x12_3 : Int) (x13_3 : Int), v9 = .int .i64 x9_3 ∧ v11 = .int .i64 x11_3 ∧ v12 = .int .i64 x12_3 ∧ v13 = .int .i64 x13_3 ∧ Aside0 (modular_Root.l2 kq a1 x9_3 x11_3 x12_3 x13_3 = some (r1, r2)) ∧ Aside0 (kq ≤ k2) ∧ Aside0 (Below w.heap.size w w'))
                        case atStart => exact ⟨(x9_1), (t107), (t108), (t109), (by first | rfl | (simp; done) | (simp [*]; done)), (by first | rfl | (simp; done) | (simp [*]; done)), (by first | rfl | (simp; done) | (simp [*]; done)), (by first | rfl | (simp; done) | (simp [*]; done)), H', ⟨Nat.le_refl _⟩, ⟨by repeat (first | (with_reducible first | exact HB.out | apply below_alloc | apply pw_below_drewN | apply below_drew1) | exact HB.out)⟩⟩
                        case round =>
                          clear H'
                          try clear c1
                          try clear p2
                          try clear c3
                          try clear c3b0
                          try clear c5
                          try clear c5b0
                          try clear c5b1
                          try clear c6
                          try clear p6
                          try clear c9
                          try clear c9b0
                          try clear c9b1
                          try clear c10
                          try clear c10b0
                          try clear c10b1
                          try clear c11
                          try clear c11b0
                          try clear c11b1
                          try clear c12
                          try clear c13
                          try clear c13b0
                          try clear c13b1
                          try clear c15
                          try clear p2
                          try clear p6
                          obtain ⟨x9_3, x11_3, x12_3, x13_3, rfl, rfl, rfl, rfl, HA, HK3, HB⟩ := hrel
                          cases gk with
                          | zero => exact absurd HA.out (by simp [modular_Root.l2])
                          | succ k3 =>
                            have H := HA.out
                            clear HA
                            simp only [modular_Root.l2] at H
                            by_cases c17 : x13_3 = 1
                            · rw [if_pos c17] at H
                              have c17b0 : (x13_3 == 1) = true := beq_iff_eq.mpr c17
                              have c17b1 : (x13_3 != 1) = false := bne_eq_false_iff_eq.mpr c17
                              clear c17
                              obtain ⟨ji18, hji18⟩ : ∃ j_ : Int, (mn x12_3 (wrap64 (a1 - x12_3))) = j_ := ⟨_, rfl⟩
                              replace H : (some (ji18, 0)) = some (r1, r2) := by first | (rw [hji18] at H; exact H) | (simp only [hji18] at H ⊢; exact H)
                              have hji18_ : (if (wrap64 (a1 - x12_3)) < x12_3 then (wrap64 (a1 - x12_3)) else x12_3) = ji18 := hji18
                              simp only [Option.some.injEq, Prod.mk.injEq] at H
                              obtain ⟨rfl, rfl⟩ := H
                              go_wp2
                              go_ret2
                              exact ⟨by first | rfl | (simp [errW_none, errW_some] <;> rfl) | (simp only [← hji18]; first | rfl | (simp [errW_none, errW_some] <;> rfl)) | (simp [*, errW_none, errW_some] <;> rfl), by repeat (first | (with_reducible first | exact HB.out | apply below_alloc | apply pw_below_drewN | apply below_drew1) | exact HB.out)⟩
                            · rw [if_neg c17] at H
                              have c17b0 : (x13_3 == 1) = false := beq_eq_false_iff_ne.mpr c17
                              have c17b1 : (x13_3 != 1) = true := bne_iff_ne.mpr c17
                              have H' := Aside0.mk H
                              clear H
                              go_wp2
                              go_loopg [14, 15] k3 (fun kq v14 v15 w' => ∃ (x14_4 : Int) (x15_4 : Int), v14 = .int .i64 x14_4 ∧ v15 = .int .i64 x15_4 ∧ Aside0 (modular_Root.l3 kq a1 x9_3 x11_3 x12_3 x13_3 x14_4 x15_4 = some (r1, r2)) ∧ Aside0 (kq ≤ k3) ∧ Aside0 (Below w.heap.size w w'))
                              case atStart => exact ⟨(0), (x13_3), (by first | rfl | (simp; done) | (simp [*]; done)), (by first | rfl | (simp; done) | (simp [*]; done)), H', ⟨Nat.le_refl _⟩, ⟨by repeat (first | (with_reducible first | exact HB.out | apply below_alloc | apply pw_below_drewN | apply below_drew1) | exact HB.out)⟩⟩
                              case round =>
                                clear H'
                                try clear c1
                                try clear p2
                                try clear c3
                                try clear c3b0
                                try clear c5
                                try clear c5b0
                                try clear c5b1
                                try clear c6
                                try clear p6
                                try clear c9
                                try clear c9b0
                                try clear c9b1
                                try clear c10
                                try clear c10b0
                                try clear c10b1
                                try clear c11
                                try clear c11b0
                                try clear c11b1
                                try clear c12
                                try clear c13
                                try clear c13b0
                                try clear c13b1
                                try clear c15
                                try clear c17
                                try clear c17b0
                                try clear c17b1
                                try clear p2
                                try clear p6
                                obtain ⟨x14_4, x15_4, rfl, rfl, HA, HK4, HB⟩ := hrel
                                cases gk with
                                | zero => exact absurd HA.out (by simp [modular_Root.l3])
                                | succ k4 =>
                                  have H := HA.out
                                  clear HA
                                  simp only [modular_Root.l3] at H
                                  by_cases c19 : x15_4 = 1
                                  · rw [if_pos c19] at H
                                    have c19b0 : (x15_4 == 1) = true := beq_iff_eq.mpr c19
                                    have c19b1 : (x15_4 != 1) = false := bne_eq_false_iff_eq.mpr c19
                                    clear c19
                                    have H' := Aside0.mk H
                                    clear H
                                    go_wp2
                                    go_loopg [9, 11] k4 (fun kq v9 v11 w' => ∃ (x9_5 : Int) (x11_5 : Int), v9 = .int .i64 x9_5 ∧ v11 = .int .i64 x11_5 ∧ Aside0 (modular_Root.l4 kq a1 x9_5 x11_5 x12_3 x13_3 x14_4 = some (r1, r2)) ∧ Aside0 (kq ≤ k4) ∧ Aside0 (Below w.heap.size w w'))
                                    case atStart => exact ⟨(x9_3), (x11_3), (by first | rfl | (simp; done) | (simp [*]; done)), (by first | rfl | (simp; done) | (simp [*]; done)), H', ⟨Nat.le_refl _⟩, ⟨by repeat (first | (with_reducible first | exact HB.out | apply below_alloc | apply pw_below_drewN | apply below_drew1) | exact HB.out)⟩⟩
                                    case round =>
                                      clear H'
                                      try clear c1
                                      try clear p2
                                      try clear c3
                                      try clear c3b0
                                      try clear c5
                                      try clear c5b0
                                      try clear c5b1
                                      try clear c6
                                      try clear p6
                                      try clear c9
                                      try clear c9b0
                                      try clear c9b1
                                      try clear c10
                                      try clear c10b0
                                      try clear c10b1
                                      try clear c11
                                      try clear c11b0
                                      try clear c11b1
                                      try clear c12
                                      try clear c13
                                      try clear c13b0
                                      try clear c13b1
                                      try clear c15
                                      try clear c17
                                      try clear c17b0
                                      try clear c17b1
                                      try clear c19
                                      try clear c19b0
                                      try clear c19b1
                                      try clear p2
                                      try clear p6
                                      obtain ⟨x9_5, x11_5, rfl, rfl, HA, HK5, HB⟩ := hrel
                                      cases gk with
                                      | zero => exact absurd HA.out (by simp [modular_Root.l4])
                                      | succ k5 =>
                                        have H := HA.out
                                        clear HA
                                        simp only [modular_Root.l4] at H
                                        by_cases c20 : x9_5 > (wrap64 (x14_4 + 1))
                                        · rw [if_pos c20] at H
                                          have c20b0 : decide ((wrap64 (x14_4 + 1)) < x9_5) = true := decide_eq_true c20
                                          clear c20
                                          replace H := Option.bind_eq_some_iff.mp H
                                          obtain ⟨t111, A210, H⟩ := H
                                          replace H : (modular_Root.l4 k5 a1 (wrap64 (x9_5 - 1)) t111 x12_3 x13_3 x14_4) = some (r1, r2) := H
                                          have A21 := Aside0.mk A210
                                          clear A210
                                          have H' := Aside0.mk H
                                          clear H
                                          go_wp2_with (first | ((with_reducible refine gate_callee (f := 38) rfl ?_); refine goesL_ (some 89) rfl rfl Try.func38 (by kernel_rfl) rfl #[.int .i64 x11_5, .int .i64 x11_5, .int .i64 a1] rfl (by (try simp only [List.map_toArray, List.map_cons, List.map_nil]); first | done | rfl | (simp only [List.length_drop, List.length_take]; rfl)) ?_; (with_reducible refine (modular_times.calls x11_5 x11_5 a1 t111 _ A21.out).mono ?_); rintro e w' ⟨rfl, ⟨nd, rfl⟩⟩; refine ⟨_, rfl, ?_⟩))
                                          go_roundg k5
                                          case measure => have := HK1.out; have := HK2.out; have := HK3.out; have := HK4.out; have := HK5.out; omega
                                          case rel => exact ⟨(wrap64 (x9_5 - 1)), (t111), (by first | rfl | (simp; done) | (simp [*]; done)), (by first | rfl | (simp; done) | (simp [*]; done)), H', ⟨by have := HK1.out; have := HK2.out; have := HK3.out; have := HK4.out; have := HK5.out; omega⟩, ⟨by repeat (first | (with_reducible first | exact HB.out | apply below_alloc | apply pw_below_drewN | apply below_drew1) | exact HB.out)⟩⟩
                                        · rw [if_neg c20] at H
                                          have c20b0 : decide ((wrap64 (x14_4 + 1)) < x9_5) = false := decide_eq_false c20
                                          clear c20
                                          replace H := Option.bind_eq_some_iff.mp H
                                          obtain ⟨t112, A220, H⟩ := H
                                          replace H : ((modular_times.f x11_5 x11_5 a1).bind fun t113 => ((modular_times.f x13_3 t113 a1).bind fun t114 => (modular_Root.l2 k5 a1 x14_4 t113 t112 t114))) = some (r1, r2) := H
                                          have A22 := Aside0.mk A220
                                          clear A220
                                          replace H := Option.bind_eq_some_iff.mp H
                                          obtain ⟨t113, A230, H⟩ := H
                                          replace H : ((modular_times.f x13_3 t113 a1).bind fun t114 => (modular_Root.l2 k5 a1 x14_4 t113 t112 t114)) = some (r1, r2) := H
                                          have A23 := Aside0.mk A230
                                          clear A230
                                          replace H := Option.bind_eq_some_iff.mp H
                                          obtain ⟨t114, A240, H⟩ := H
                                          replace H : (modular_Root.l2 k5 a1 x14_4 t113 t112 t114) = some (r1, r2) := H
                                          have A24 := Aside0.mk A240
                                          clear A240
                                          have H' := Aside0.mk H
                                          clear H
                                          go_wp2_with (first | ((with_reducible refine gate_callee (f := 38) rfl ?_); refine goesL_ (some 93) rfl rfl Try.func38 (by kernel_rfl) rfl #[.int .i64 x12_3, .int .i64 x11_5, .int .i64 a1] rfl (by (try simp only [List.map_toArray, List.map_cons, List.map_nil]); first | done | rfl | (simp only [List.length_drop, List.length_take]; rfl)) ?_; (with_reducible refine (modular_times.calls x12_3 x11_5 a1 t112 _ A22.out).mono ?_); rintro e w' ⟨rfl, ⟨nd, rfl⟩⟩; refine ⟨_, rfl, ?_⟩) | ((with_reducible refine gate_callee (f := 38) rfl ?_); refine goesL_ (some 97) rfl rfl Try.func38 (by kernel_rfl) rfl #[.int .i64 x11_5, .int .i64 x11_5, .int .i64 a1] rfl (by (try simp only [List.map_toArray, List.map_cons, List.map_nil]); first | done | rfl | (simp only [List.length_drop, List.length_take]; rfl)) ?_; (with_reducible refine (modular_times.calls x11_5 x11_5 a1 t113 _ A23.out).mono ?_); rintro e w' ⟨rfl, ⟨nd, rfl⟩⟩; refine ⟨_, rfl, ?_⟩) | ((with_reducible refine gate_callee (f := 38) rfl ?_); refine goesL_ (some 101) rfl rfl Try.func38 (by kernel_rfl) rfl #[.int .i64 x13_3, .int .i64 t113, .int .i64 a1] rfl (by (try simp only [List.map_toArray, List.map_cons, List.map_nil]); first | done | rfl | (simp only [List.length_drop, List.length_take]; rfl)) ?_; (with_reducible refine (modular_times.calls x13_3 t113 a1 t114 _ A24.out).mono ?_); rintro e w' ⟨rfl, ⟨nd, rfl⟩⟩; refine ⟨_, rfl, ?_⟩))
                                          go_roundg k5
                                          case measure => have := HK1.out; have := HK2.out; have := HK3.out; have := HK4.out; have := HK5.out; omega
                                          case rel => exact ⟨(x14_4), (t113), (t112), (t114), (by first | rfl | (simp; done) | (simp [*]; done)), (by first | rfl | (simp; done) | (simp [*]; done)), (by first | rfl | (simp; done) | (simp [*]; done)), (by first | rfl | (simp; done) | (simp [*]; done)), H', ⟨by have := HK1.out; have := HK2.out; have := HK3.out; have := HK4.out; have := HK5.out; omega⟩, ⟨by repeat (first | (with_reducible first | exact HB.out | apply below_alloc | apply pw_below_drewN | apply below_drew1) | exact HB.out)⟩⟩
                                  · rw [if_neg c19] at H
                                    have c19b0 : (x15_4 == 1) = false := beq_eq_false_iff_ne.mpr c19
                                    have c19b1 : (x15_4 != 1) = true := bne_iff_ne.mpr c19
                                    replace H := Option.bind_eq_some_iff.mp H
                                    obtain ⟨t110, A250, H⟩ := H
                                    replace H : (modular_Root.l3 k4 a1 x9_3 x11_3 x12_3 x13_3 (wrap64 (x14_4 + 1)) t110) = some (r1, r2) := H
                                    have A25 := Aside0.mk A250
                                    clear A250
                                    have H' := Aside0.mk H
                                    clear H
                                    go_wp2_with (first | ((with_reducible refine gate_callee (f := 38) rfl ?_); refine goesL_ (some 79) rfl rfl Try.func38 (by kernel_rfl) rfl #[.int .i64 x15_4, .int .i64 x15_4, .int .i64 a1] rfl (by (try simp only [List.map_toArray, List.map_cons, List.map_nil]); first | done | rfl | (simp only [List.length_drop, List.length_take]; rfl)) ?_; (with_reducible refine (modular_times.calls x15_4 x15_4 a1 t110 _ A25.out).mono ?_); rintro e w' ⟨rfl, ⟨nd, rfl⟩⟩; refine ⟨_, rfl, ?_⟩))
                                    go_roundg k4
                                    case measure => have := HK1.out; have := HK2.out; have := HK3.out; have := HK4.out; omega
                                    case rel => exact ⟨(wrap64 (x14_4 + 1)), (t110), (by first | rfl | (simp; done) | (simp [*]; done)), (by first | rfl | (simp; done) | (simp [*]; done)), H', ⟨by have := HK1.out; have := HK2.out; have := HK3.out; have := HK4.out; omega⟩, ⟨by repeat (first | (with_reducible first | exact HB.out | apply below_alloc | apply pw_below_drewN | apply below_drew1) | exact HB.out)⟩⟩
                      · rw [if_neg c13] at H
                        have c13b0 : (t106 == (-1)) = false := beq_eq_false_iff_ne.mpr c13
                        have c13b1 : (t106 != (-1)) = true := bne_iff_ne.mpr c13
                        have H' := Aside0.mk H
                        clear H
                        go_wp2_with (first | ((with_reducible refine gate_callee (f := 12) rfl ?_); refine goesL_ (some 51) rfl rfl Try.func12 (by kernel_rfl) rfl #[.int .i64 x10_2, .int .i64 a1] rfl (by (try simp only [List.map_toArray, List.map_cons, List.map_nil]); first | done | rfl | (simp only [List.length_drop, List.length_take]; rfl)) ?_; (with_reducible refine (modular_Kronecker.calls x10_2 a1 t106 _ A12.out).mono ?_); rintro e w' ⟨rfl, ⟨nd, rfl⟩⟩; refine ⟨_, rfl, ?_⟩))
                        go_roundg k2
                        case measure => have := HK1.out; have := HK2.out; omega
                        case rel => exact ⟨(wrap64 (x10_2 + 1)), (by first | rfl | (simp; done) | (simp [*]; done)), H', ⟨by have := HK1.out; have := HK2.out; omega⟩, ⟨by repeat (first | (with_reducible first | exact HB.out | apply below_alloc | apply pw_below_drewN | apply below_drew1) | exact HB.out)⟩⟩
      · replace c6 := Bool.eq_false_iff.mpr c6
        subst c6
        have H1 : (some (0, 40)) = some (r1, r2) := by rw [if_neg (show ¬ (false = true) by decide)] at H; exact H
        clear H
        have H := H1
        clear H1
        simp only [Option.some.injEq, Prod.mk.injEq] at H
        obtain ⟨rfl, rfl⟩ := H
        go_enter Try.func15, Try.ntmps15
        go_wp2_with (first | ((with_reducible refine gate_callee (f := 17) rfl ?_); refine goesL_ (some 20) rfl rfl Try.func17 (by kernel_rfl) rfl #[.int .i64 a1] rfl (by (try simp only [List.map_toArray, List.map_cons, List.map_nil]); first | done | rfl | (simp only [List.length_drop, List.length_take]; rfl)) ?_; (with_reducible refine (modular_Prime.calls k a1 false t103 _ A4.out).mono ?_); rintro e w' ⟨rfl, ⟨nd, rfl⟩⟩; refine ⟨_, rfl, ?_⟩))
        go_ret2
        exact ⟨by first | rfl | (simp [errW_none, errW_some] <;> rfl) | (simp [*, errW_none, errW_some] <;> rfl), by repeat (first | (with_reducible first | exact HB.out | apply below_alloc | apply pw_below_drewN | apply below_drew1) | exact HB.out)⟩
    · rw [if_neg c5] at H
      have c5b0 : (t103 == 0) = false := beq_eq_false_iff_ne.mpr c5
      have c5b1 : (t103 != 0) = true := bne_iff_ne.mpr c5
      simp only [Option.some.injEq, Prod.mk.injEq] at H
      obtain ⟨rfl, rfl⟩ := H
      go_enter Try.func15, Try.ntmps15
      go_wp2_with (first | ((with_reducible refine gate_callee (f := 17) rfl ?_); refine goesL_ (some 20) rfl rfl Try.func17 (by kernel_rfl) rfl #[.int .i64 a1] rfl (by (try simp only [List.map_toArray, List.map_cons, List.map_nil]); first | done | rfl | (simp only [List.length_drop, List.length_take]; rfl)) ?_; (with_reducible refine (modular_Prime.calls k a1 t102 t103 _ A4.out).mono ?_); rintro e w' ⟨rfl, ⟨nd, rfl⟩⟩; refine ⟨_, rfl, ?_⟩))
      go_ret2
      exact ⟨by first | rfl | (simp [errW_none, errW_some] <;> rfl) | (simp [*, errW_none, errW_some] <;> rfl), by repeat (first | (with_reducible first | exact HB.out | apply below_alloc | apply pw_below_drewN | apply below_drew1) | exact HB.out)⟩
def parquetref04_Prime.l0 : Nat → Int → Int → Option (Bool × Int)
  | 0, _, _ => none
  | k + 1, x0, x4 => if (wrap64 (x4 * x4)) ≤ x0 then (if x4 = 0 then (none) else (if (Int.tmod x0 x4) = 0 then (some (false, 0)) else (parquetref04_Prime.l0 k x0 (wrap64 (x4 + 1))))) else (some (true, 0))
def parquetref04_Prime.f (k : Nat) (a0 : Int) : Option (Bool × Int) := if a0 > 1099511627776 then (some (false, 3)) else (if a0 < 2 then (some (false, 0)) else (parquetref04_Prime.l0 k a0 2))
end Go.Proofs.Ytkgejfokdmdikaa.PModularRoots
end
section
namespace Go.Proofs.Ytkgejfokdmdikaa.PModularRoots
open Go.RowKit Go.Proofs.YtkgejfokdmdikaaW.PrintWords Go.Proofs.YtkgejfokdmdikaaW.PrintLast Go.Proofs.YtkgejfokdmdikaaW.PrintMore
attribute [local go_sem] max2_int min2_int max_two min_two max_three min_three max_four min_four   -- for this text's walks alone
set_option linter.unusedVariables false
set_option linter.unusedSimpArgs false
mutual
def parquetref04_Root.l0 : Nat → Int → Int → Int → Int → Option (Int × Int)
  | 0, _, _, _, _ => none
  | k + 1, x0, x1, x8, x9 => if (Int.tmod x8 2) = 0 then (parquetref04_Root.l0 k x0 x1 (wrap64 (Int.tdiv x8 2)) (wrap64 (x9 + 1))) else (parquetref04_Root.l1 k x0 x1 x8 x9 2)
def parquetref04_Root.l1 : Nat → Int → Int → Int → Int → Int → Option (Int × Int)
  | 0, _, _, _, _, _ => none
  | k + 1, x0, x1, x8, x9, x10 => (parquetref04_To.f x10 (wrap64 (Int.tdiv (wrap64 (x1 - 1)) 2)) x1).bind fun t119 => (if t119 = 1 then (parquetref04_Root.l1 k x0 x1 x8 x9 (wrap64 (x10 + 1))) else ((parquetref04_To.f x10 x8 x1).bind fun t120 => ((parquetref04_To.f x0 (wrap64 (Int.tdiv (wrap64 (x8 + 1)) 2)) x1).bind fun t121 => ((parquetref04_To.f x0 x8 x1).bind fun t122 => (parquetref04_Root.l2 k x1 x9 t120 t121 t122)))))
def parquetref04_Root.l2 : Nat → Int → Int → Int → Int → Int → Option (Int × Int)
  | 0, _, _, _, _, _ => none
  | k + 1, x1, x9, x11, x12, x13 => if x13 = 1 then (some (mn x12 (wrap64 (x1 - x12)), 0)) else (parquetref04_Root.l3 k x1 x9 x11 x12 x13 0 x13)
def parquetref04_Root.l3 : Nat → Int → Int → Int → Int → Int → Int → Int → Option (Int × Int)
  | 0, _, _, _, _, _, _, _ => none
  | k + 1, x1, x9, x11, x12, x13, x14, x15 => if x15 = 1 then (parquetref04_Root.l4 k x1 x9 x12 x13 x14 x11 0) else ((parquetref04_Times.f x15 x15 x1).bind fun t123 => (parquetref04_Root.l3 k x1 x9 x11 x12 x13 (wrap64 (x14 + 1)) t123))
def parquetref04_Root.l4 : Nat → Int → Int → Int → Int → Int → Int → Int → Option (Int × Int)
  | 0, _, _, _, _, _, _, _ => none
  | k + 1, x1, x9, x12, x13, x14, x16, x17 => if x17 < (wrap64 ((wrap64 (x9 - x14)) - 1)) then ((parquetref04_Times.f x16 x16 x1).bind fun t124 => (parquetref04_Root.l4 k x1 x9 x12 x13 x14 t124 (wrap64 (x17 + 1)))) else ((parquetref04_Times.f x16 x16 x1).bind fun t125 => ((parquetref04_Times.f x12 x16 x1).bind fun t126 => ((parquetref04_Times.f x13 t125 x1).bind fun t127 => (parquetref04_Root.l2 k x1 x14 t125 t126 t127))))
end
def parquetref04_Root.f (k : Nat) (a0 : Int) (a1 : Int) : Option (Int × Int) := if a1 < 3 then (some (0, 2)) else ((parquetref04_Prime.f k a1).bind fun bt115 => (if bt115.2 = 0 then (if bt115.1 = true then ((parquetref04_Mod.f a0 a1).bind fun t117 => (if t117 = 0 then (some (0, 0)) else ((parquetref04_To.f t117 (wrap64 (Int.tdiv (wrap64 (a1 - 1)) 2)) a1).bind fun t118 => (if t118 = 1 then (parquetref04_Root.l0 k t117 a1 (wrap64 (a1 - 1)) 0) else (some (0, 41)))))) else (some (0, 40))) else (some (0, bt115.2))))
end Go.Proofs.Ytkgejfokdmdikaa.PModularRoots
end
