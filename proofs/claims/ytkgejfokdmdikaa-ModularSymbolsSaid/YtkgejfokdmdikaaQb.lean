/- Derived.Test.YtkgejfokdmdikaaPModularKroneckersx0 Derived.Test.YtkgejfokdmdikaaPModularKroneckersx1 Derived.Test.YtkgejfokdmdikaaPModularKroneckersx2 -/
import Derived.Test.YtkgejfokdmdikaaProg
import Derived.Below
import Derived.Deep.Draws
import Derived.Deep.AppendLies
import Derived.Maps.AppendAt
import Derived.OwnWalk
import Derived.Laws.BytesArg
import Derived.Laws.MakeOwn
import Derived.Laws.OwnMore
import Derived.Deep.OwnRows
import Derived.Tactics
import Derived.Lib.ConvBytes
import Derived.Laws.Slices
import Derived.WalkKit
import Derived.KernelRfl
import Derived.RowKit3
import Derived.Deep.LoopGhost
import Derived.Deep.QuietTactic
import Derived.BigQuiet
import Derived.WideLaws
import Derived.Deep.DeepCutAuto
import Derived.Deep.CutBlock
import Derived.Deep.RegionHeld3
import Derived.Laws.Rows
import Derived.Lib.AppendStr
import Derived.ArgAppend
import Derived.Laws.IdiomCopy
import Derived.OrdersHeld
import Derived.Laws.BitsLemmas
import Derived.RowKit
import Derived.Test.YtkgejfokdmdikaaQa
section
namespace Go.Proofs.Ytkgejfokdmdikaa.PModularKroneckers
open Go.RowKit Go.Proofs.YtkgejfokdmdikaaW.PrintWords Go.Proofs.YtkgejfokdmdikaaW.PrintLast Go.Proofs.YtkgejfokdmdikaaW.PrintMore
attribute [local go_sem] max2_int min2_int max_two min_two max_three min_three max_four min_four   -- for this text's walks alone
set_option linter.unusedVariables false
set_option linter.unusedSimpArgs false
def errW : Option Int → Value
  | none => .nilIface
  | some c => .iface 0 (.int .i64 c)
theorem errW_none : errW none = .nilIface := rfl
theorem errW_some (c : Int) : errW (some c) = .iface 0 (.int .i64 c) := rfl
end Go.Proofs.Ytkgejfokdmdikaa.PModularKroneckers
end
section
namespace Go.Proofs.Ytkgejfokdmdikaa.PModularKroneckers
open Go.RowKit Go.Proofs.YtkgejfokdmdikaaW.PrintWords Go.Proofs.YtkgejfokdmdikaaW.PrintLast Go.Proofs.YtkgejfokdmdikaaW.PrintMore
attribute [local go_sem] max2_int min2_int max_two min_two max_three min_three max_four min_four   -- for this text's walks alone
set_option linter.unusedVariables false
set_option linter.unusedSimpArgs false
def modular_two.f (a0 : Int) : Option (Int) := if (Go.bits .and .u64 a0 7) = 1 then (some 1) else (if (Go.bits .and .u64 a0 7) = 7 then (some 1) else (if (Go.bits .and .u64 a0 7) = 3 then (some (-1)) else (if (Go.bits .and .u64 a0 7) = 5 then (some (-1)) else (some 0))))
set_option maxHeartbeats 8000000 in
set_option maxRecDepth 100000 in
theorem modular_two.calls (a0 : Int) (r : Int) (w : World) (h : modular_two.f a0 = some r) :
    Calls Try.prog 33 #[.int .u64 a0] w fun e w' => e = .returned (.int .i64 r) ∧ Drawn0 w w' := by
  have H : (if (Go.bits .and .u64 a0 7) = 1 then (some 1) else (if (Go.bits .and .u64 a0 7) = 7 then (some 1) else (if (Go.bits .and .u64 a0 7) = 3 then (some (-1)) else (if (Go.bits .and .u64 a0 7) = 5 then (some (-1)) else (some 0))))) = some r := h
  clear h
  by_cases c2 : (Go.bits .and .u64 a0 7) = 1
  · rw [if_pos c2] at H
    have c2b0 : ((Go.bits .and .u64 a0 7) == 1) = true := beq_iff_eq.mpr c2
    have c2b1 : ((Go.bits .and .u64 a0 7) != 1) = false := bne_eq_false_iff_eq.mpr c2
    clear c2
    obtain rfl := Option.some.inj H
    go_enter Try.func33, Try.ntmps33
    go_wp2
    go_ret
    exact ⟨by first | rfl | (simp; done) | (simp [*]; done), by repeat (first | exact Drawn0.refl _ | apply Drawn0.step)⟩
  · rw [if_neg c2] at H
    have c2b0 : ((Go.bits .and .u64 a0 7) == 1) = false := beq_eq_false_iff_ne.mpr c2
    have c2b1 : ((Go.bits .and .u64 a0 7) != 1) = true := bne_iff_ne.mpr c2
    by_cases c3 : (Go.bits .and .u64 a0 7) = 7
    · rw [if_pos c3] at H
      have c3b0 : ((Go.bits .and .u64 a0 7) == 7) = true := beq_iff_eq.mpr c3
      have c3b1 : ((Go.bits .and .u64 a0 7) != 7) = false := bne_eq_false_iff_eq.mpr c3
      clear c3
      obtain rfl := Option.some.inj H
      go_enter Try.func33, Try.ntmps33
      go_wp2
      go_ret
      exact ⟨by first | rfl | (simp; done) | (simp [*]; done), by repeat (first | exact Drawn0.refl _ | apply Drawn0.step)⟩
    · rw [if_neg c3] at H
      have c3b0 : ((Go.bits .and .u64 a0 7) == 7) = false := beq_eq_false_iff_ne.mpr c3
      have c3b1 : ((Go.bits .and .u64 a0 7) != 7) = true := bne_iff_ne.mpr c3
      by_cases c4 : (Go.bits .and .u64 a0 7) = 3
      · rw [if_pos c4] at H
        have c4b0 : ((Go.bits .and .u64 a0 7) == 3) = true := beq_iff_eq.mpr c4
        have c4b1 : ((Go.bits .and .u64 a0 7) != 3) = false := bne_eq_false_iff_eq.mpr c4
        clear c4
        obtain rfl := Option.some.inj H
        go_enter Try.func33, Try.ntmps33
        go_wp2
        go_ret
        exact ⟨by first | rfl | (simp; done) | (simp [*]; done), by repeat (first | exact Drawn0.refl _ | apply Drawn0.step)⟩
      · rw [if_neg c4] at H
        have c4b0 : ((Go.bits .and .u64 a0 7) == 3) = false := beq_eq_false_iff_ne.mpr c4
        have c4b1 : ((Go.bits .and .u64 a0 7) != 3) = true := bne_iff_ne.mpr c4
        by_cases c5 : (Go.bits .and .u64 a0 7) = 5
        · rw [if_pos c5] at H
          have c5b0 : ((Go.bits .and .u64 a0 7) == 5) = true := beq_iff_eq.mpr c5
          have c5b1 : ((Go.bits .and .u64 a0 7) != 5) = false := bne_eq_false_iff_eq.mpr c5
          clear c5
          obtain rfl := Option.some.inj H
          go_enter Try.func33, Try.ntmps33
          go_wp2
          go_ret
          exact ⟨by first | rfl | (simp; done) | (simp [*]; done), by repeat (first | exact Drawn0.refl _ | apply Drawn0.step)⟩
        · rw [if_neg c5] at H
          have c5b0 : ((Go.bits .and .u64 a0 7) == 5) = false := beq_eq_false_iff_ne.mpr c5
          have c5b1 : ((Go.bits .and .u64 a0 7) != 5) = true := bne_iff_ne.mpr c5
          obtain rfl := Option.some.inj H
          go_enter Try.func33, Try.ntmps33
          go_wp2
          go_ret
          exact ⟨by first | rfl | (simp; done) | (simp [*]; done), by repeat (first | exact Drawn0.refl _ | apply Drawn0.step)⟩
mutual
def modular_Kronecker.j0 : Nat → Int → Int → Int → Option (Int)
  | 0, _, _, _ => none
  | k + 1, x0, x5, x6 => modular_Kronecker.l0 k x0 x5 x6
def modular_Kronecker.l0 : Nat → Int → Int → Int → Option (Int)
  | 0, _, _, _ => none
  | k + 1, x0, x5, x6 => if (Go.bits .and .u64 x6 1) = 0 then ((modular_two.f (IntKind.u64.wrap (x0))).bind fun t101 => (modular_Kronecker.l0 k x0 (wrap64 (x5 * t101)) (x6 / 2))) else (if x5 = 0 then (some 0) else (if x6 = 0 then (none) else (if x0 < 0 then (modular_Kronecker.j2 k x5 x6 (Int.tmod (IntKind.u64.wrap (x6 - (Int.tmod (IntKind.u64.wrap (-(IntKind.u64.wrap (x0)))) x6))) x6)) else (modular_Kronecker.j2 k x5 x6 (Int.tmod (IntKind.u64.wrap (x0)) x6)))))
def modular_Kronecker.j2 : Nat → Int → Int → Int → Option (Int)
  | 0, _, _, _ => none
  | k + 1, x5, x6, x7 => modular_Kronecker.l1 k x5 x6 x7
def modular_Kronecker.l1 : Nat → Int → Int → Int → Option (Int)
  | 0, _, _, _ => none
  | k + 1, x5, x6, x7 => if x7 = 0 then (if x6 = 1 then (some x5) else (some 0)) else (modular_Kronecker.l2 k x5 x6 x7)
def modular_Kronecker.l2 : Nat → Int → Int → Int → Option (Int)
  | 0, _, _, _ => none
  | k + 1, x5, x6, x7 => if (Go.bits .and .u64 x7 1) = 0 then ((modular_two.f x6).bind fun t102 => (modular_Kronecker.l2 k (wrap64 (x5 * t102)) x6 (x7 / 2))) else (if (Go.bits .and .u64 x7 3) = 3 then (if (Go.bits .and .u64 x6 3) = 3 then (if x7 = 0 then (none) else (modular_Kronecker.l1 k (wrap64 (-x5)) x7 (Int.tmod x6 x7))) else (if x7 = 0 then (none) else (modular_Kronecker.l1 k x5 x7 (Int.tmod x6 x7)))) else (if x7 = 0 then (none) else (modular_Kronecker.l1 k x5 x7 (Int.tmod x6 x7))))
end
def modular_Kronecker.f (k : Nat) (a0 : Int) (a1 : Int) : Option (Int) := if a1 = 0 then (if a0 = 1 then (some 1) else (if a0 = (-1) then (some 1) else (some 0))) else (if a1 < 0 then (if a0 < 0 then (modular_Kronecker.j0 k a0 (-1) (IntKind.u64.wrap (-(IntKind.u64.wrap (a1))))) else (modular_Kronecker.j0 k a0 1 (IntKind.u64.wrap (-(IntKind.u64.wrap (a1)))))) else (modular_Kronecker.j0 k a0 1 (IntKind.u64.wrap (a1))))
set_option maxHeartbeats 8000000 in
set_option maxRecDepth 100000 in
theorem modular_Kronecker.calls (k : Nat) (a0 : Int) (a1 : Int) (r : Int) (w : World) (h : modular_Kronecker.f k a0 a1 = some r) :
    Calls Try.prog 12 #[.int .i64 a0, .int .i64 a1] w fun e w' => e = .returned (.int .i64 r) ∧ Drawn0 w w' := by
  have H : (if a1 = 0 then (if a0 = 1 then (some 1) else (if a0 = (-1) then (some 1) else (some 0))) else (if a1 < 0 then (if a0 < 0 then (modular_Kronecker.j0 k a0 (-1) (IntKind.u64.wrap (-(IntKind.u64.wrap (a1))))) else (modular_Kronecker.j0 k a0 1 (IntKind.u64.wrap (-(IntKind.u64.wrap (a1)))))) else (modular_Kronecker.j0 k a0 1 (IntKind.u64.wrap (a1))))) = some r := h
  clear h
  by_cases c3 : a1 = 0
  · rw [if_pos c3] at H
    have c3b0 : (a1 == 0) = true := beq_iff_eq.mpr c3
    have c3b1 : (a1 != 0) = false := bne_eq_false_iff_eq.mpr c3
    clear c3
    by_cases c4 : a0 = 1
    · rw [if_pos c4] at H
      have c4b0 : (a0 == 1) = true := beq_iff_eq.mpr c4
      have c4b1 : (a0 != 1) = false := bne_eq_false_iff_eq.mpr c4
      clear c4
      obtain rfl := Option.some.inj H
      go_enter Try.func12, Try.ntmps12
      go_wp2
      go_ret
      exact ⟨by first | rfl | (simp; done) | (simp [*]; done), by repeat (first | exact Drawn0.refl _ | apply Drawn0.step)⟩
    · rw [if_neg c4] at H
      have c4b0 : (a0 == 1) = false := beq_eq_false_iff_ne.mpr c4
      have c4b1 : (a0 != 1) = true := bne_iff_ne.mpr c4
      by_cases c5 : a0 = (-1)
      · rw [if_pos c5] at H
        have c5b0 : (a0 == (-1)) = true := beq_iff_eq.mpr c5
        have c5b1 : (a0 != (-1)) = false := bne_eq_false_iff_eq.mpr c5
        clear c5
        obtain rfl := Option.some.inj H
        go_enter Try.func12, Try.ntmps12
        go_wp2
        go_ret
        exact ⟨by first | rfl | (simp; done) | (simp [*]; done), by repeat (first | exact Drawn0.refl _ | apply Drawn0.step)⟩
      · rw [if_neg c5] at H
        have c5b0 : (a0 == (-1)) = false := beq_eq_false_iff_ne.mpr c5
        have c5b1 : (a0 != (-1)) = true := bne_iff_ne.mpr c5
        obtain rfl := Option.some.inj H
        go_enter Try.func12, Try.ntmps12
        go_wp2
        go_ret
        exact ⟨by first | rfl | (simp; done) | (simp [*]; done), by repeat (first | exact Drawn0.refl _ | apply Drawn0.step)⟩
  · rw [if_neg c3] at H
    have c3b0 : (a1 == 0) = false := beq_eq_false_iff_ne.mpr c3
    have c3b1 : (a1 != 0) = true := bne_iff_ne.mpr c3
    have HC6 := Aside0.mk H
    clear H
    go_enter Try.func12, Try.ntmps12
    go_upto_if 19 with (fail)
    go_cut [5, 6] (fun v5 v6 wc => ∃ (kq : Nat) (x5_5 : Int) (x6_5 : Int), v5 = .int .i64 x5_5 ∧ v6 = .int .u64 x6_5 ∧ Aside0 (modular_Kronecker.j0 kq a0 x5_5 x6_5 = some r) ∧ Aside0 (kq ≤ k) ∧ Drawn0 w wc)
    case first =>
      have H := HC6.out
      clear HC6
      by_cases c7 : a1 < 0
      · rw [if_pos c7] at H
        have c7b0 : decide (a1 < 0) = true := decide_eq_true c7
        clear c7
        (first | rw [c7b0] | (simp only [i64_w, i32_w]; rw [c7b0]) | skip)
        by_cases c8 : a0 < 0
        · rw [if_pos c8] at H
          have c8b0 : decide (a0 < 0) = true := decide_eq_true c8
          clear c8
          have H' := Aside0.mk H
          clear H
          go_wp2
          go_meet
          case rel => exact ⟨_, (-1), (IntKind.u64.wrap (-(IntKind.u64.wrap (a1)))), (by first | rfl | (simp; done) | (simp [*]; done)), (by first | rfl | (simp; done) | (simp [*]; done)), H', ⟨by first | omega | exact Nat.le_refl _⟩, by repeat (first | exact Drawn0.refl _ | apply Drawn0.step)⟩
        · rw [if_neg c8] at H
          have c8b0 : decide (a0 < 0) = false := decide_eq_false c8
          clear c8
          have H' := Aside0.mk H
          clear H
          go_wp2
          go_meet
          case rel => exact ⟨_, (1), (IntKind.u64.wrap (-(IntKind.u64.wrap (a1)))), (by first | rfl | (simp; done) | (simp [*]; done)), (by first | rfl | (simp; done) | (simp [*]; done)), H', ⟨by first | omega | exact Nat.le_refl _⟩, by repeat (first | exact Drawn0.refl _ | apply Drawn0.step)⟩
      · rw [if_neg c7] at H
        have c7b0 : decide (a1 < 0) = false := decide_eq_false c7
        clear c7
        (first | rw [c7b0] | (simp only [i64_w, i32_w]; rw [c7b0]) | skip)
        have H' := Aside0.mk H
        clear H
        go_wp2
        go_meet
        case rel => exact ⟨_, (1), (IntKind.u64.wrap (a1)), (by first | rfl | (simp; done) | (simp [*]; done)), (by first | rfl | (simp; done) | (simp [*]; done)), H', ⟨by first | omega | exact Nat.le_refl _⟩, by repeat (first | exact Drawn0.refl _ | apply Drawn0.step)⟩
    case rest =>
      clear HC6
      try clear c1
      try clear p2
      try clear c3
      try clear c3b0
      try clear c3b1
      try clear c4
      try clear c4b0
      try clear c4b1
      try clear c5
      try clear c5b0
      try clear c5b1
      try clear c7
      try clear c7b0
      try clear c8
      try clear c8b0
      obtain ⟨kq, x5_5, x6_5, rfl, rfl, HA, HJ5, ⟨mc5, rfl⟩⟩ := hcut
      cases kq with
      | zero => exact absurd HA.out (by simp [modular_Kronecker.j0])
      | succ kj5 =>
        have H := HA.out
        clear HA
        simp only [modular_Kronecker.j0] at H
        have H' := Aside0.mk H
        clear H
        go_wp2
        go_loopg [5, 6] kj5 (fun kq v5 v6 w' => ∃ (x5_2 : Int) (x6_2 : Int), v5 = .int .i64 x5_2 ∧ v6 = .int .u64 x6_2 ∧ Aside0 (modular_Kronecker.l0 kq a0 x5_2 x6_2 = some r) ∧ Aside0 (kq ≤ kj5) ∧ Drawn0 w w')
        case atStart => exact ⟨(x5_5), (x6_5), (by first | rfl | (simp; done) | (simp [*]; done)), (by first | rfl | (simp; done) | (simp [*]; done)), H', ⟨Nat.le_refl _⟩, by repeat (first | exact Drawn0.refl _ | apply Drawn0.step)⟩
        case round =>
          clear H'
          try clear c1
          try clear p2
          try clear c3
          try clear c3b0
          try clear c3b1
          try clear c4
          try clear c4b0
          try clear c4b1
          try clear c5
          try clear c5b0
          try clear c5b1
          try clear c7
          try clear c7b0
          try clear c8
          try clear c8b0
          try clear p2
          obtain ⟨x5_2, x6_2, rfl, rfl, HA, HK2, ⟨m2, rfl⟩⟩ := hrel
          cases gk with
          | zero => exact absurd HA.out (by simp [modular_Kronecker.l0])
          | succ k2 =>
            have H := HA.out
            clear HA
            simp only [modular_Kronecker.l0] at H
            by_cases c9 : (Go.bits .and .u64 x6_2 1) = 0
            · rw [if_pos c9] at H
              have c9b0 : ((Go.bits .and .u64 x6_2 1) == 0) = true := beq_iff_eq.mpr c9
              have c9b1 : ((Go.bits .and .u64 x6_2 1) != 0) = false := bne_eq_false_iff_eq.mpr c9
              clear c9
              replace H := Option.bind_eq_some_iff.mp H
              obtain ⟨t101, A100, H⟩ := H
              replace H : (modular_Kronecker.l0 k2 a0 (wrap64 (x5_2 * t101)) (x6_2 / 2)) = some r := H
              have A10 := Aside0.mk A100
              clear A100
              have H' := Aside0.mk H
              clear H
              go_wp2_with (first | ((with_reducible refine gate_callee (f := 33) rfl ?_); refine goesL_ (some 34) rfl rfl Try.func33 (by kernel_rfl) rfl #[.int .u64 (IntKind.u64.wrap (a0))] rfl (by (try simp only [List.map_toArray, List.map_cons, List.map_nil]); first | done | rfl | (simp only [List.length_drop, List.length_take]; rfl)) ?_; (with_reducible refine (modular_two.calls (IntKind.u64.wrap (a0)) t101 _ A10.out).mono ?_); rintro e w' ⟨rfl, ⟨nd, rfl⟩⟩; refine ⟨_, rfl, ?_⟩))
              go_roundg k2
              case measure => have := HJ5.out; have := HK2.out; omega
              case rel => exact ⟨(wrap64 (x5_2 * t101)), (x6_2 / 2), (by first | rfl | (simp; done) | (simp [*]; done)), (by first | rfl | (simp; done) | (simp [*]; done)), H', ⟨by have := HJ5.out; have := HK2.out; omega⟩, by repeat (first | exact Drawn0.refl _ | apply Drawn0.step)⟩
            · rw [if_neg c9] at H
              have c9b0 : ((Go.bits .and .u64 x6_2 1) == 0) = false := beq_eq_false_iff_ne.mpr c9
              have c9b1 : ((Go.bits .and .u64 x6_2 1) != 0) = true := bne_iff_ne.mpr c9
              by_cases c11 : x5_2 = 0
              · rw [if_pos c11] at H
                have c11b0 : (x5_2 == 0) = true := beq_iff_eq.mpr c11
                have c11b1 : (x5_2 != 0) = false := bne_eq_false_iff_eq.mpr c11
                clear c11
                obtain rfl := Option.some.inj H
                go_wp2
                go_ret
                exact ⟨by first | rfl | (simp; done) | (simp [*]; done), by repeat (first | exact Drawn0.refl _ | apply Drawn0.step)⟩
              · rw [if_neg c11] at H
                have c11b0 : (x5_2 == 0) = false := beq_eq_false_iff_ne.mpr c11
                have c11b1 : (x5_2 != 0) = true := bne_iff_ne.mpr c11
                by_cases c12 : x6_2 = 0
                · rw [if_pos c12] at H
                  exact absurd H (by simp)
                · rw [if_neg c12] at H
                  have c12b0 : (x6_2 == 0) = false := beq_eq_false_iff_ne.mpr c12
                  have c12b1 : (x6_2 != 0) = true := bne_iff_ne.mpr c12
                  have HC13 := Aside0.mk H
                  clear H
                  go_upto_if 43 with (fail)
                  go_cut [7] (fun v7 wc => ∃ (kq : Nat) (x7_12 : Int), v7 = .int .u64 x7_12 ∧ Aside0 (modular_Kronecker.j2 kq x5_2 x6_2 x7_12 = some r) ∧ Aside0 (kq ≤ k2) ∧ Drawn0 w wc)
                  case first =>
                    have H := HC13.out
                    clear HC13
                    by_cases c14 : a0 < 0
                    · rw [if_pos c14] at H
                      have c14b0 : decide (a0 < 0) = true := decide_eq_true c14
                      clear c14
                      (first | rw [c14b0] | (simp only [i64_w, i32_w]; rw [c14b0]) | skip)
                      have H' := Aside0.mk H
                      clear H
                      go_wp2
                      go_meet
                      case rel => exact ⟨_, (Int.tmod (IntKind.u64.wrap (x6_2 - (Int.tmod (IntKind.u64.wrap (-(IntKind.u64.wrap (a0)))) x6_2))) x6_2), (by first | rfl | (simp; done) | (simp [*]; done)), H', ⟨by have := HJ5.out; have := HK2.out; first | omega | exact Nat.le_refl _⟩, by repeat (first | exact Drawn0.refl _ | apply Drawn0.step)⟩
                    · rw [if_neg c14] at H
                      have c14b0 : decide (a0 < 0) = false := decide_eq_false c14
                      clear c14
                      (first | rw [c14b0] | (simp only [i64_w, i32_w]; rw [c14b0]) | skip)
                      have H' := Aside0.mk H
                      clear H
                      go_wp2
                      go_meet
                      case rel => exact ⟨_, (Int.tmod (IntKind.u64.wrap (a0)) x6_2), (by first | rfl | (simp; done) | (simp [*]; done)), H', ⟨by have := HJ5.out; have := HK2.out; first | omega | exact Nat.le_refl _⟩, by repeat (first | exact Drawn0.refl _ | apply Drawn0.step)⟩
                  case rest =>
                    clear HC13
                    try clear c1
                    try clear p2
                    try clear c3
                    try clear c3b0
                    try clear c3b1
                    try clear c4
                    try clear c4b0
                    try clear c4b1
                    try clear c5
                    try clear c5b0
                    try clear c5b1
                    try clear p6
                    try clear c7
                    try clear c7b0
                    try clear c8
                    try clear c8b0
                    try clear c9
                    try clear c9b0
                    try clear c9b1
                    try clear c11
                    try clear c11b0
                    try clear c11b1
                    try clear c12
                    try clear c12b0
                    try clear c12b1
                    try clear c14
                    try clear c14b0
                    try clear p2
                    obtain ⟨kq, x7_12, rfl, HA, HJ12, ⟨mc12, rfl⟩⟩ := hcut
                    cases kq with
                    | zero => exact absurd HA.out (by simp [modular_Kronecker.j2])
                    | succ kj12 =>
                      have H := HA.out
                      clear HA
                      simp only [modular_Kronecker.j2] at H
                      have H' := Aside0.mk H
                      clear H
                      go_wp2
                      go_loopg [5, 6, 7] kj12 (fun kq v5 v6 v7 w' => ∃ (x5_4 : Int) (x6_4 : Int) (x7_4 : Int), v5 = .int .i64 x5_4 ∧ v6 = .int .u64 x6_4 ∧ v7 = .int .u64 x7_4 ∧ Aside0 (modular_Kronecker.l1 kq x5_4 x6_4 x7_4 = some r) ∧ Aside0 (kq ≤ kj12) ∧ Drawn0 w w')
                      case atStart => exact ⟨(x5_2), (x6_2), (x7_12), (by first | rfl | (simp; done) | (simp [*]; done)), (by first | rfl | (simp; done) | (simp [*]; done)), (by first | rfl | (simp; done) | (simp [*]; done)), H', ⟨Nat.le_refl _⟩, by repeat (first | exact Drawn0.refl _ | apply Drawn0.step)⟩
                      case round =>
                        clear H'
                        try clear c1
                        try clear p2
                        try clear c3
                        try clear c3b0
                        try clear c3b1
                        try clear c4
                        try clear c4b0
                        try clear c4b1
                        try clear c5
                        try clear c5b0
                        try clear c5b1
                        try clear p6
                        try clear c7
                        try clear c7b0
                        try clear c8
                        try clear c8b0
                        try clear c9
                        try clear c9b0
                        try clear c9b1
                        try clear c11
                        try clear c11b0
                        try clear c11b1
                        try clear c12
                        try clear c12b0
                        try clear c12b1
                        try clear c14
                        try clear c14b0
                        try clear p2
                        try clear p6
                        obtain ⟨x5_4, x6_4, x7_4, rfl, rfl, rfl, HA, HK4, ⟨m4, rfl⟩⟩ := hrel
                        cases gk with
                        | zero => exact absurd HA.out (by simp [modular_Kronecker.l1])
                        | succ k4 =>
                          have H := HA.out
                          clear HA
                          simp only [modular_Kronecker.l1] at H
                          by_cases c15 : x7_4 = 0
                          · rw [if_pos c15] at H
                            have c15b0 : (x7_4 == 0) = true := beq_iff_eq.mpr c15
                            have c15b1 : (x7_4 != 0) = false := bne_eq_false_iff_eq.mpr c15
                            clear c15
                            by_cases c16 : x6_4 = 1
                            · rw [if_pos c16] at H
                              have c16b0 : (x6_4 == 1) = true := beq_iff_eq.mpr c16
                              have c16b1 : (x6_4 != 1) = false := bne_eq_false_iff_eq.mpr c16
                              clear c16
                              obtain rfl := Option.some.inj H
                              go_wp2
                              go_ret
                              exact ⟨by first | rfl | (simp; done) | (simp [*]; done), by repeat (first | exact Drawn0.refl _ | apply Drawn0.step)⟩
                            · rw [if_neg c16] at H
                              have c16b0 : (x6_4 == 1) = false := beq_eq_false_iff_ne.mpr c16
                              have c16b1 : (x6_4 != 1) = true := bne_iff_ne.mpr c16
                              obtain rfl := Option.some.inj H
                              go_wp2
                              go_ret
                              exact ⟨by first | rfl | (simp; done) | (simp [*]; done), by repeat (first | exact Drawn0.refl _ | apply Drawn0.step)⟩
                          · rw [if_neg c15] at H
                            have c15b0 : (x7_4 == 0) = false := beq_eq_false_iff_ne.mpr c15
                            have c15b1 : (x7_4 != 0) = true := bne_iff_ne.mpr c15
                            have H' := Aside0.mk H
                            clear H
                            go_wp2
                            go_loopg [5, 7] k4 (fun kq v5 v7 w' => ∃ (x5_5 : Int) (x7_5 : Int), v5 = .int .i64 x5_5 ∧ v7 = .int .u64 x7_5 ∧ Aside0 (modular_Kronecker.l2 kq x5_5 x6_4 x7_5 = some r) ∧ Aside0 (kq ≤ k4) ∧ Drawn0 w w')
                            case atStart => exact ⟨(x5_4), (x7_4), (by first | rfl | (simp; done) | (simp [*]; done)), (by first | rfl | (simp; done) | (simp [*]; done)), H', ⟨Nat.le_refl _⟩, by repeat (first | exact Drawn0.refl _ | apply Drawn0.step)⟩
                            case round =>
                              clear H'
                              try clear c1
                              try clear p2
                              try clear c3
                              try clear c3b0
                              try clear c3b1
                              try clear c4
                              try clear c4b0
                              try clear c4b1
                              try clear c5
                              try clear c5b0
                              try clear c5b1
                              try clear p6
                              try clear c7
                              try clear c7b0
                              try clear c8
                              try clear c8b0
                              try clear c9
                              try clear c9b0
                              try clear c9b1
                              try clear c11
                              try clear c11b0
                              try clear c11b1
                              try clear c12
                              try clear c12b0
                              try clear c12b1
                              try clear c14
                              try clear c14b0
                              try clear c15
                              try clear c15b0
                              try clear c15b1
                              try clear c16
                              try clear c16b0
                              try clear c16b1
                              try clear p2
                              try clear p6
                              obtain ⟨x5_5, x7_5, rfl, rfl, HA, HK5, ⟨m5, rfl⟩⟩ := hrel
                              cases gk with
                              | zero => exact absurd HA.out (by simp [modular_Kronecker.l2])
                              | succ k5 =>
                                have H := HA.out
                                clear HA
                                simp only [modular_Kronecker.l2] at H
                                by_cases c17 : (Go.bits .and .u64 x7_5 1) = 0
                                · rw [if_pos c17] at H
                                  have c17b0 : ((Go.bits .and .u64 x7_5 1) == 0) = true := beq_iff_eq.mpr c17
                                  have c17b1 : ((Go.bits .and .u64 x7_5 1) != 0) = false := bne_eq_false_iff_eq.mpr c17
                                  clear c17
                                  replace H := Option.bind_eq_some_iff.mp H
                                  obtain ⟨t102, A180, H⟩ := H
                                  replace H : (modular_Kronecker.l2 k5 (wrap64 (x5_5 * t102)) x6_4 (x7_5 / 2)) = some r := H
                                  have A18 := Aside0.mk A180
                                  clear A180
                                  have H' := Aside0.mk H
                                  clear H
                                  go_wp2_with (first | ((with_reducible refine gate_callee (f := 33) rfl ?_); refine goesL_ (some 62) rfl rfl Try.func33 (by kernel_rfl) rfl #[.int .u64 x6_4] rfl (by (try simp only [List.map_toArray, List.map_cons, List.map_nil]); first | done | rfl | (simp only [List.length_drop, List.length_take]; rfl)) ?_; (with_reducible refine (modular_two.calls x6_4 t102 _ A18.out).mono ?_); rintro e w' ⟨rfl, ⟨nd, rfl⟩⟩; refine ⟨_, rfl, ?_⟩))
                                  go_roundg k5
                                  case measure => have := HJ5.out; have := HK2.out; have := HJ12.out; have := HK4.out; have := HK5.out; omega
                                  case rel => exact ⟨(wrap64 (x5_5 * t102)), (x7_5 / 2), (by first | rfl | (simp; done) | (simp [*]; done)), (by first | rfl | (simp; done) | (simp [*]; done)), H', ⟨by have := HJ5.out; have := HK2.out; have := HJ12.out; have := HK4.out; have := HK5.out; omega⟩, by repeat (first | exact Drawn0.refl _ | apply Drawn0.step)⟩
                                · rw [if_neg c17] at H
                                  have c17b0 : ((Go.bits .and .u64 x7_5 1) == 0) = false := beq_eq_false_iff_ne.mpr c17
                                  have c17b1 : ((Go.bits .and .u64 x7_5 1) != 0) = true := bne_iff_ne.mpr c17
                                  by_cases c19 : (Go.bits .and .u64 x7_5 3) = 3
                                  · rw [if_pos c19] at H
                                    have c19b0 : ((Go.bits .and .u64 x7_5 3) == 3) = true := beq_iff_eq.mpr c19
                                    have c19b1 : ((Go.bits .and .u64 x7_5 3) != 3) = false := bne_eq_false_iff_eq.mpr c19
                                    clear c19
                                    by_cases c20 : (Go.bits .and .u64 x6_4 3) = 3
                                    · rw [if_pos c20] at H
                                      have c20b0 : ((Go.bits .and .u64 x6_4 3) == 3) = true := beq_iff_eq.mpr c20
                                      have c20b1 : ((Go.bits .and .u64 x6_4 3) != 3) = false := bne_eq_false_iff_eq.mpr c20
                                      clear c20
                                      by_cases c21 : x7_5 = 0
                                      · rw [if_pos c21] at H
                                        exact absurd H (by simp)
                                      · rw [if_neg c21] at H
                                        have c21b0 : (x7_5 == 0) = false := beq_eq_false_iff_ne.mpr c21
                                        have c21b1 : (x7_5 != 0) = true := bne_iff_ne.mpr c21
                                        have H' := Aside0.mk H
                                        clear H
                                        go_wp2
                                        go_roundg k5
                                        case measure => have := HJ5.out; have := HK2.out; have := HJ12.out; have := HK4.out; have := HK5.out; omega
                                        case rel => exact ⟨(wrap64 (-x5_5)), (x7_5), (Int.tmod x6_4 x7_5), (by first | rfl | (simp; done) | (simp [*]; done)), (by first | rfl | (simp; done) | (simp [*]; done)), (by first | rfl | (simp; done) | (simp [*]; done)), H', ⟨by have := HJ5.out; have := HK2.out; have := HJ12.out; have := HK4.out; have := HK5.out; omega⟩, by repeat (first | exact Drawn0.refl _ | apply Drawn0.step)⟩
                                    · rw [if_neg c20] at H
                                      have c20b0 : ((Go.bits .and .u64 x6_4 3) == 3) = false := beq_eq_false_iff_ne.mpr c20
                                      have c20b1 : ((Go.bits .and .u64 x6_4 3) != 3) = true := bne_iff_ne.mpr c20
                                      by_cases c22 : x7_5 = 0
                                      · rw [if_pos c22] at H
                                        exact absurd H (by simp)
                                      · rw [if_neg c22] at H
                                        have c22b0 : (x7_5 == 0) = false := beq_eq_false_iff_ne.mpr c22
                                        have c22b1 : (x7_5 != 0) = true := bne_iff_ne.mpr c22
                                        have H' := Aside0.mk H
                                        clear H
                                        go_wp2
                                        go_roundg k5
                                        case measure => have := HJ5.out; have := HK2.out; have := HJ12.out; have := HK4.out; have := HK5.out; omega
                                        case rel => exact ⟨(x5_5), (x7_5), (Int.tmod x6_4 x7_5), (by first | rfl | (simp; done) | (simp [*]; done)), (by first | rfl | (simp; done) | (simp [*]; done)), (by first | rfl | (simp; done) | (simp [*]; done)), H', ⟨by have := HJ5.out; have := HK2.out; have := HJ12.out; have := HK4.out; have := HK5.out; omega⟩, by repeat (first | exact Drawn0.refl _ | apply Drawn0.step)⟩
                                  · rw [if_neg c19] at H
                                    have c19b0 : ((Go.bits .and .u64 x7_5 3) == 3) = false := beq_eq_false_iff_ne.mpr c19
                                    have c19b1 : ((Go.bits .and .u64 x7_5 3) != 3) = true := bne_iff_ne.mpr c19
                                    by_cases c23 : x7_5 = 0
                                    · rw [if_pos c23] at H
                                      exact absurd H (by simp)
                                    · rw [if_neg c23] at H
                                      have c23b0 : (x7_5 == 0) = false := beq_eq_false_iff_ne.mpr c23
                                      have c23b1 : (x7_5 != 0) = true := bne_iff_ne.mpr c23
                                      have H' := Aside0.mk H
                                      clear H
                                      go_wp2
                                      go_roundg k5
                                      case measure => have := HJ5.out; have := HK2.out; have := HJ12.out; have := HK4.out; have := HK5.out; omega
                                      case rel => exact ⟨(x5_5), (x7_5), (Int.tmod x6_4 x7_5), (by first | rfl | (simp; done) | (simp [*]; done)), (by first | rfl | (simp; done) | (simp [*]; done)), (by first | rfl | (simp; done) | (simp [*]; done)), H', ⟨by have := HJ5.out; have := HK2.out; have := HJ12.out; have := HK4.out; have := HK5.out; omega⟩, by repeat (first | exact Drawn0.refl _ | apply Drawn0.step)⟩
def parquetref04_Mod.f (a0 : Int) (a1 : Int) : Option (Int) := if a1 = 0 then (none) else (if (Int.tmod a0 a1) < 0 then (some (wrap64 ((Int.tmod a0 a1) + a1))) else (some (Int.tmod a0 a1)))
end Go.Proofs.Ytkgejfokdmdikaa.PModularKroneckers
end
section
namespace Go.Proofs.Ytkgejfokdmdikaa.PModularKroneckers
open Go.RowKit Go.Proofs.YtkgejfokdmdikaaW.PrintWords Go.Proofs.YtkgejfokdmdikaaW.PrintLast Go.Proofs.YtkgejfokdmdikaaW.PrintMore
attribute [local go_sem] max2_int min2_int max_two min_two max_three min_three max_four min_four   -- for this text's walks alone
set_option linter.unusedVariables false
set_option linter.unusedSimpArgs false
mutual
def parquetref04_jacobi.j0 : Nat → Int → Int → Option (Int)
  | 0, _, _ => none
  | k + 1, x1, x5 => parquetref04_jacobi.l0 k x1 x5 1
def parquetref04_jacobi.l0 : Nat → Int → Int → Int → Option (Int)
  | 0, _, _, _ => none
  | k + 1, x1, x5, x6 => if x5 > 0 then (parquetref04_jacobi.l1 k x1 x5 x6) else (if x1 = 1 then (some x6) else (some 0))
def parquetref04_jacobi.l1 : Nat → Int → Int → Int → Option (Int)
  | 0, _, _, _ => none
  | k + 1, x1, x5, x6 => if (Int.tmod x5 2) = 0 then (if (Int.tmod x1 8) = 3 then (parquetref04_jacobi.l1 k x1 (IntKind.u64.wrap (Int.tdiv x5 2)) (wrap64 (-x6))) else (if (Int.tmod x1 8) = 5 then (parquetref04_jacobi.l1 k x1 (IntKind.u64.wrap (Int.tdiv x5 2)) (wrap64 (-x6))) else (parquetref04_jacobi.l1 k x1 (IntKind.u64.wrap (Int.tdiv x5 2)) x6))) else (if (Int.tmod x5 4) = 3 then (if (Int.tmod x1 4) = 3 then (if x5 = 0 then (none) else (parquetref04_jacobi.l0 k x5 (Int.tmod x1 x5) (wrap64 (-x6)))) else (if x5 = 0 then (none) else (parquetref04_jacobi.l0 k x5 (Int.tmod x1 x5) x6))) else (if x5 = 0 then (none) else (parquetref04_jacobi.l0 k x5 (Int.tmod x1 x5) x6)))
end
def parquetref04_jacobi.f (k : Nat) (a0 : Int) (a1 : Int) : Option (Int) := if a1 = 0 then (none) else (if a0 < 0 then (parquetref04_jacobi.j0 k a1 (Int.tmod (IntKind.u64.wrap (a1 - (Int.tmod (IntKind.u64.wrap (-(IntKind.u64.wrap (a0)))) a1))) a1)) else (parquetref04_jacobi.j0 k a1 (Int.tmod (IntKind.u64.wrap (a0)) a1)))
mutual
def parquetref04_Kronecker.j0 : Nat → Int → Int → Int → Bool → Option (Int)
  | 0, _, _, _, _ => none
  | k + 1, x0, x1, x5, x21 => if x21 = true then (parquetref04_Kronecker.j1 k x0 x1 (-1)) else (parquetref04_Kronecker.j1 k x0 x1 x5)
def parquetref04_Kronecker.j1 : Nat → Int → Int → Int → Option (Int)
  | 0, _, _, _ => none
  | k + 1, x0, x1, x5 => if x1 < 0 then (parquetref04_Kronecker.j2 k x0 x5 (IntKind.u64.wrap (-(IntKind.u64.wrap (x1))))) else (parquetref04_Kronecker.j2 k x0 x5 (IntKind.u64.wrap (x1)))
def parquetref04_Kronecker.j2 : Nat → Int → Int → Int → Option (Int)
  | 0, _, _, _ => none
  | k + 1, x0, x5, x6 => parquetref04_Kronecker.l0 k x0 x5 x6
def parquetref04_Kronecker.l0 : Nat → Int → Int → Int → Option (Int)
  | 0, _, _, _ => none
  | k + 1, x0, x5, x6 => if (Int.tmod x6 2) = 0 then ((parquetref04_Mod.f x0 8).bind fun t104 => (if (Int.tmod t104 2) = 0 then (some 0) else (if t104 = 3 then (parquetref04_Kronecker.l0 k x0 (wrap64 (-x5)) (IntKind.u64.wrap (Int.tdiv x6 2))) else (if t104 = 5 then (parquetref04_Kronecker.l0 k x0 (wrap64 (-x5)) (IntKind.u64.wrap (Int.tdiv x6 2))) else (parquetref04_Kronecker.l0 k x0 x5 (IntKind.u64.wrap (Int.tdiv x6 2))))))) else ((parquetref04_jacobi.f k x0 x6).bind fun t103 => (some (wrap64 (x5 * t103))))
end
def parquetref04_Kronecker.f (k : Nat) (a0 : Int) (a1 : Int) : Option (Int) := if a1 = 0 then (if a0 = 1 then (some 1) else (if a0 = (-1) then (some 1) else (some 0))) else (if a1 < 0 then (parquetref04_Kronecker.j0 k a0 a1 1 (decide (a0 < 0))) else (parquetref04_Kronecker.j0 k a0 a1 1 false))
end Go.Proofs.Ytkgejfokdmdikaa.PModularKroneckers
end
