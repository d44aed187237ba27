-- Made by a program of this session's (fprint.py) over the kit's print.py: printed functions, and what is told of others in texts of ours.
import Derived.Test.YtkgejfokdmdikaaPModularKroneckersx0
import Derived.Test.YtkgejfokdmdikaaPModularKroneckersx1
namespace Go.Proofs.Ytkgejfokdmdikaa.PModularKroneckers
open Go.RowKit Go.Proofs.YtkgejfokdmdikaaW.PrintWords Go.Proofs.YtkgejfokdmdikaaW.PrintLast Go.Proofs.YtkgejfokdmdikaaW.PrintMore
attribute [local go_sem] max2_int min2_int max_two min_two max_three min_three max_four min_four   -- for this text's walks alone
set_option linter.unusedVariables false
set_option linter.unusedSimpArgs false

/-! ### parquetref04_jacobi: function 35 -/
mutual
def parquetref04_jacobi.j0 : Nat → Int → Int → Option (Int)
  | 0, _, _ => none
  | k + 1, x1, x5 => parquetref04_jacobi.l0 k x1 x5 1
def parquetref04_jacobi.l0 : Nat → Int → Int → Int → Option (Int)
  | 0, _, _, _ => none
  | k + 1, x1, x5, x6 => if x5 > 0 then (parquetref04_jacobi.l1 k x1 x5 x6) else (if x1 = 1 then (some x6) else (some 0))
def parquetref04_jacobi.l1 : Nat → Int → Int → Int → Option (Int)
  | 0, _, _, _ => none
  | k + 1, x1, x5, x6 => if (Int.tmod x5 2) = 0 then (if (Int.tmod x1 8) = 3 then (parquetref04_jacobi.l1 k x1 (IntKind.u64.wrap (Int.tdiv x5 2)) (wrap64 (-x6))) else (if (Int.tmod x1 8) = 5 then (parquetref04_jacobi.l1 k x1 (IntKind.u64.wrap (Int.tdiv x5 2)) (wrap64 (-x6))) else (parquetref04_jacobi.l1 k x1 (IntKind.u64.wrap (Int.tdiv x5 2)) x6))) else (if (Int.tmod x5 4) = 3 then (if (Int.tmod x1 4) = 3 then (if x5 = 0 then (none) else (parquetref04_jacobi.l0 k x5 (Int.tmod x1 x5) (wrap64 (-x6)))) else (if x5 = 0 then (none) else (parquetref04_jacobi.l0 k x5 (Int.tmod x1 x5) x6))) else (if x5 = 0 then (none) else (parquetref04_jacobi.l0 k x5 (Int.tmod x1 x5) x6)))
end
def parquetref04_jacobi.f (k : Nat) (a0 : Int) (a1 : Int) : Option (Int) := if a1 = 0 then (none) else (if a0 < 0 then (parquetref04_jacobi.j0 k a1 (Int.tmod (IntKind.u64.wrap (a1 - (Int.tmod (IntKind.u64.wrap (-(IntKind.u64.wrap (a0)))) a1))) a1)) else (parquetref04_jacobi.j0 k a1 (Int.tmod (IntKind.u64.wrap (a0)) a1)))
theorem parquetref04_jacobi.mono_l : ∀ k, (∀ y0 y1, LeO (parquetref04_jacobi.j0 k y0 y1) (parquetref04_jacobi.j0 (k + 1) y0 y1)) ∧ (∀ y0 y1 y2, LeO (parquetref04_jacobi.l0 k y0 y1 y2) (parquetref04_jacobi.l0 (k + 1) y0 y1 y2)) ∧ (∀ y0 y1 y2, LeO (parquetref04_jacobi.l1 k y0 y1 y2) (parquetref04_jacobi.l1 (k + 1) y0 y1 y2))
  | 0 => ⟨fun _ _ r h => by simp [parquetref04_jacobi.j0] at h, fun _ _ _ r h => by simp [parquetref04_jacobi.l0] at h, fun _ _ _ r h => by simp [parquetref04_jacobi.l1] at h⟩
  | k + 1 => by
    obtain ⟨ih0, ih1, ih2⟩ := parquetref04_jacobi.mono_l k
    refine ⟨?_, ?_, ?_⟩
    · intro y0 y1
      unfold parquetref04_jacobi.j0
      repeat' first
      | (with_reducible exact ih0 _ _)
      | (with_reducible exact ih1 _ _ _)
      | (with_reducible exact ih2 _ _ _)
      | (with_reducible exact LeO.refl _)
      | (with_reducible exact LeO.none _)
      | (with_reducible refine LeO.ite ?_ ?_)
      | (with_reducible refine LeO.bind ?_ (fun _ => ?_))
      | exact ih0 _ _
      | exact ih1 _ _ _
      | exact ih2 _ _ _
      | exact LeO.none _
      | refine LeO.ite ?_ ?_
      | refine LeO.bind ?_ (fun _ => ?_)
    · intro y0 y1 y2
      unfold parquetref04_jacobi.l0
      repeat' first
      | (with_reducible exact ih0 _ _)
      | (with_reducible exact ih1 _ _ _)
      | (with_reducible exact ih2 _ _ _)
      | (with_reducible exact LeO.refl _)
      | (with_reducible exact LeO.none _)
      | (with_reducible refine LeO.ite ?_ ?_)
      | (with_reducible refine LeO.bind ?_ (fun _ => ?_))
      | exact ih0 _ _
      | exact ih1 _ _ _
      | exact ih2 _ _ _
      | exact LeO.none _
      | refine LeO.ite ?_ ?_
      | refine LeO.bind ?_ (fun _ => ?_)
    · intro y0 y1 y2
      unfold parquetref04_jacobi.l1
      repeat' first
      | (with_reducible exact ih0 _ _)
      | (with_reducible exact ih1 _ _ _)
      | (with_reducible exact ih2 _ _ _)
      | (with_reducible exact LeO.refl _)
      | (with_reducible exact LeO.none _)
      | (with_reducible refine LeO.ite ?_ ?_)
      | (with_reducible refine LeO.bind ?_ (fun _ => ?_))
      | exact ih0 _ _
      | exact ih1 _ _ _
      | exact ih2 _ _ _
      | exact LeO.none _
      | refine LeO.ite ?_ ?_
      | refine LeO.bind ?_ (fun _ => ?_)
theorem parquetref04_jacobi.mono : ∀ a0 a1 k, LeO (parquetref04_jacobi.f k a0 a1) (parquetref04_jacobi.f (k + 1) a0 a1) := by
  intro a0 a1 k
  obtain ⟨ih0, ih1, ih2⟩ := parquetref04_jacobi.mono_l k
  unfold parquetref04_jacobi.f
  repeat' first
      | (with_reducible exact ih0 _ _)
      | (with_reducible exact ih1 _ _ _)
      | (with_reducible exact ih2 _ _ _)
      | (with_reducible exact LeO.refl _)
      | (with_reducible exact LeO.none _)
      | (with_reducible refine LeO.ite ?_ ?_)
      | (with_reducible refine LeO.bind ?_ (fun _ => ?_))
      | exact ih0 _ _
      | exact ih1 _ _ _
      | exact ih2 _ _ _
      | exact LeO.none _
      | refine LeO.ite ?_ ?_
      | refine LeO.bind ?_ (fun _ => ?_)
set_option maxHeartbeats 8000000 in
set_option maxRecDepth 100000 in
theorem parquetref04_jacobi.calls (k : Nat) (a0 : Int) (a1 : Int) (r : Int) (w : World) (h : parquetref04_jacobi.f k a0 a1 = some r) :
    Calls Try.prog 35 #[.int .i64 a0, .int .u64 a1] w fun e w' => e = .returned (.int .i64 r) ∧ Drawn0 w w' := by
  have H : (if a1 = 0 then (none) else (if a0 < 0 then (parquetref04_jacobi.j0 k a1 (Int.tmod (IntKind.u64.wrap (a1 - (Int.tmod (IntKind.u64.wrap (-(IntKind.u64.wrap (a0)))) a1))) a1)) else (parquetref04_jacobi.j0 k a1 (Int.tmod (IntKind.u64.wrap (a0)) a1)))) = some r := h
  clear h
  by_cases c3 : a1 = 0
  · rw [if_pos c3] at H
    exact absurd H (by simp)
  · rw [if_neg c3] at H
    have c3b0 : (a1 == 0) = false := beq_eq_false_iff_ne.mpr c3
    have c3b1 : (a1 != 0) = true := bne_iff_ne.mpr c3
    have HC4 := Aside0.mk H
    clear H
    go_enter Try.func35, Try.ntmps35
    go_upto_if 13 with (fail)
    go_cut [5] (fun v5 wc => ∃ (kq : Nat) (x5_3 : Int), v5 = .int .u64 x5_3 ∧ Aside0 (parquetref04_jacobi.j0 kq a1 x5_3 = some r) ∧ Aside0 (kq ≤ k) ∧ Drawn0 w wc)
    case first =>
      have H := HC4.out
      clear HC4
      by_cases c5 : a0 < 0
      · rw [if_pos c5] at H
        have c5b0 : decide (a0 < 0) = true := decide_eq_true c5
        clear c5
        (first | rw [c5b0] | (simp only [i64_w, i32_w]; rw [c5b0]) | skip)
        have H' := Aside0.mk H
        clear H
        go_wp2
        go_meet
        case rel => exact ⟨_, (Int.tmod (IntKind.u64.wrap (a1 - (Int.tmod (IntKind.u64.wrap (-(IntKind.u64.wrap (a0)))) a1))) a1), (by first | rfl | (simp; done) | (simp [*]; done)), H', ⟨by first | omega | exact Nat.le_refl _⟩, by repeat (first | exact Drawn0.refl _ | apply Drawn0.step)⟩
      · rw [if_neg c5] at H
        have c5b0 : decide (a0 < 0) = false := decide_eq_false c5
        clear c5
        (first | rw [c5b0] | (simp only [i64_w, i32_w]; rw [c5b0]) | skip)
        have H' := Aside0.mk H
        clear H
        go_wp2
        go_meet
        case rel => exact ⟨_, (Int.tmod (IntKind.u64.wrap (a0)) a1), (by first | rfl | (simp; done) | (simp [*]; done)), H', ⟨by first | omega | exact Nat.le_refl _⟩, by repeat (first | exact Drawn0.refl _ | apply Drawn0.step)⟩
    case rest =>
      clear HC4
      try clear p2
      try clear c3
      try clear c3b0
      try clear c3b1
      try clear c5
      try clear c5b0
      obtain ⟨kq, x5_3, rfl, HA, HJ3, ⟨mc3, rfl⟩⟩ := hcut
      cases kq with
      | zero => exact absurd HA.out (by simp [parquetref04_jacobi.j0])
      | succ kj3 =>
        have H := HA.out
        clear HA
        simp only [parquetref04_jacobi.j0] at H
        have H' := Aside0.mk H
        clear H
        go_wp2
        go_loopg [1, 5, 6] kj3 (fun kq v1 v5 v6 w' => ∃ (x1_2 : Int) (x5_2 : Int) (x6_2 : Int), v1 = .int .u64 x1_2 ∧ v5 = .int .u64 x5_2 ∧ v6 = .int .i64 x6_2 ∧ Aside0 (parquetref04_jacobi.l0 kq x1_2 x5_2 x6_2 = some r) ∧ Aside0 (kq ≤ kj3) ∧ Drawn0 w w')
        case atStart => exact ⟨(a1), (x5_3), (1), (by first | rfl | (simp; done) | (simp [*]; done)), (by first | rfl | (simp; done) | (simp [*]; done)), (by first | rfl | (simp; done) | (simp [*]; done)), H', ⟨Nat.le_refl _⟩, by repeat (first | exact Drawn0.refl _ | apply Drawn0.step)⟩
        case round =>
          clear H'
          try clear p2
          try clear c3
          try clear c3b0
          try clear c3b1
          try clear c5
          try clear c5b0
          try clear p2
          obtain ⟨x1_2, x5_2, x6_2, rfl, rfl, rfl, HA, HK2, ⟨m2, rfl⟩⟩ := hrel
          cases gk with
          | zero => exact absurd HA.out (by simp [parquetref04_jacobi.l0])
          | succ k2 =>
            have H := HA.out
            clear HA
            simp only [parquetref04_jacobi.l0] at H
            by_cases c6 : x5_2 > 0
            · rw [if_pos c6] at H
              have c6b0 : decide (0 < x5_2) = true := decide_eq_true c6
              clear c6
              have H' := Aside0.mk H
              clear H
              go_wp2
              go_loopg [5, 6] k2 (fun kq v5 v6 w' => ∃ (x5_3 : Int) (x6_3 : Int), v5 = .int .u64 x5_3 ∧ v6 = .int .i64 x6_3 ∧ Aside0 (parquetref04_jacobi.l1 kq x1_2 x5_3 x6_3 = some r) ∧ Aside0 (kq ≤ k2) ∧ Drawn0 w w')
              case atStart => exact ⟨(x5_2), (x6_2), (by first | rfl | (simp; done) | (simp [*]; done)), (by first | rfl | (simp; done) | (simp [*]; done)), H', ⟨Nat.le_refl _⟩, by repeat (first | exact Drawn0.refl _ | apply Drawn0.step)⟩
              case round =>
                clear H'
                try clear p2
                try clear c3
                try clear c3b0
                try clear c3b1
                try clear c5
                try clear c5b0
                try clear c6
                try clear c6b0
                try clear p2
                obtain ⟨x5_3, x6_3, rfl, rfl, HA, HK3, ⟨m3, rfl⟩⟩ := hrel
                cases gk with
                | zero => exact absurd HA.out (by simp [parquetref04_jacobi.l1])
                | succ k3 =>
                  have H := HA.out
                  clear HA
                  simp only [parquetref04_jacobi.l1] at H
                  by_cases c7 : (Int.tmod x5_3 2) = 0
                  · rw [if_pos c7] at H
                    have c7b0 : ((Int.tmod x5_3 2) == 0) = true := beq_iff_eq.mpr c7
                    have c7b1 : ((Int.tmod x5_3 2) != 0) = false := bne_eq_false_iff_eq.mpr c7
                    clear c7
                    by_cases c8 : (Int.tmod x1_2 8) = 3
                    · rw [if_pos c8] at H
                      have c8b0 : ((Int.tmod x1_2 8) == 3) = true := beq_iff_eq.mpr c8
                      have c8b1 : ((Int.tmod x1_2 8) != 3) = false := bne_eq_false_iff_eq.mpr c8
                      clear c8
                      have H' := Aside0.mk H
                      clear H
                      go_wp2
                      go_roundg k3
                      case measure => have := HJ3.out; have := HK2.out; have := HK3.out; omega
                      case rel => exact ⟨(IntKind.u64.wrap (Int.tdiv x5_3 2)), (wrap64 (-x6_3)), (by first | rfl | (simp; done) | (simp [*]; done)), (by first | rfl | (simp; done) | (simp [*]; done)), H', ⟨by have := HJ3.out; have := HK2.out; have := HK3.out; omega⟩, by repeat (first | exact Drawn0.refl _ | apply Drawn0.step)⟩
                    · rw [if_neg c8] at H
                      have c8b0 : ((Int.tmod x1_2 8) == 3) = false := beq_eq_false_iff_ne.mpr c8
                      have c8b1 : ((Int.tmod x1_2 8) != 3) = true := bne_iff_ne.mpr c8
                      by_cases c9 : (Int.tmod x1_2 8) = 5
                      · rw [if_pos c9] at H
                        have c9b0 : ((Int.tmod x1_2 8) == 5) = true := beq_iff_eq.mpr c9
                        have c9b1 : ((Int.tmod x1_2 8) != 5) = false := bne_eq_false_iff_eq.mpr c9
                        clear c9
                        have H' := Aside0.mk H
                        clear H
                        go_wp2
                        go_roundg k3
                        case measure => have := HJ3.out; have := HK2.out; have := HK3.out; omega
                        case rel => exact ⟨(IntKind.u64.wrap (Int.tdiv x5_3 2)), (wrap64 (-x6_3)), (by first | rfl | (simp; done) | (simp [*]; done)), (by first | rfl | (simp; done) | (simp [*]; done)), H', ⟨by have := HJ3.out; have := HK2.out; have := HK3.out; omega⟩, by repeat (first | exact Drawn0.refl _ | apply Drawn0.step)⟩
                      · rw [if_neg c9] at H
                        have c9b0 : ((Int.tmod x1_2 8) == 5) = false := beq_eq_false_iff_ne.mpr c9
                        have c9b1 : ((Int.tmod x1_2 8) != 5) = true := bne_iff_ne.mpr c9
                        have H' := Aside0.mk H
                        clear H
                        go_wp2
                        go_roundg k3
                        case measure => have := HJ3.out; have := HK2.out; have := HK3.out; omega
                        case rel => exact ⟨(IntKind.u64.wrap (Int.tdiv x5_3 2)), (x6_3), (by first | rfl | (simp; done) | (simp [*]; done)), (by first | rfl | (simp; done) | (simp [*]; done)), H', ⟨by have := HJ3.out; have := HK2.out; have := HK3.out; omega⟩, by repeat (first | exact Drawn0.refl _ | apply Drawn0.step)⟩
                  · rw [if_neg c7] at H
                    have c7b0 : ((Int.tmod x5_3 2) == 0) = false := beq_eq_false_iff_ne.mpr c7
                    have c7b1 : ((Int.tmod x5_3 2) != 0) = true := bne_iff_ne.mpr c7
                    by_cases c10 : (Int.tmod x5_3 4) = 3
                    · rw [if_pos c10] at H
                      have c10b0 : ((Int.tmod x5_3 4) == 3) = true := beq_iff_eq.mpr c10
                      have c10b1 : ((Int.tmod x5_3 4) != 3) = false := bne_eq_false_iff_eq.mpr c10
                      clear c10
                      by_cases c11 : (Int.tmod x1_2 4) = 3
                      · rw [if_pos c11] at H
                        have c11b0 : ((Int.tmod x1_2 4) == 3) = true := beq_iff_eq.mpr c11
                        have c11b1 : ((Int.tmod x1_2 4) != 3) = false := bne_eq_false_iff_eq.mpr c11
                        clear c11
                        by_cases c12 : x5_3 = 0
                        · rw [if_pos c12] at H
                          exact absurd H (by simp)
                        · rw [if_neg c12] at H
                          have c12b0 : (x5_3 == 0) = false := beq_eq_false_iff_ne.mpr c12
                          have c12b1 : (x5_3 != 0) = true := bne_iff_ne.mpr c12
                          have H' := Aside0.mk H
                          clear H
                          go_wp2
                          go_roundg k3
                          case measure => have := HJ3.out; have := HK2.out; have := HK3.out; omega
                          case rel => exact ⟨(x5_3), (Int.tmod x1_2 x5_3), (wrap64 (-x6_3)), (by first | rfl | (simp; done) | (simp [*]; done)), (by first | rfl | (simp; done) | (simp [*]; done)), (by first | rfl | (simp; done) | (simp [*]; done)), H', ⟨by have := HJ3.out; have := HK2.out; have := HK3.out; omega⟩, by repeat (first | exact Drawn0.refl _ | apply Drawn0.step)⟩
                      · rw [if_neg c11] at H
                        have c11b0 : ((Int.tmod x1_2 4) == 3) = false := beq_eq_false_iff_ne.mpr c11
                        have c11b1 : ((Int.tmod x1_2 4) != 3) = true := bne_iff_ne.mpr c11
                        by_cases c13 : x5_3 = 0
                        · rw [if_pos c13] at H
                          exact absurd H (by simp)
                        · rw [if_neg c13] at H
                          have c13b0 : (x5_3 == 0) = false := beq_eq_false_iff_ne.mpr c13
                          have c13b1 : (x5_3 != 0) = true := bne_iff_ne.mpr c13
                          have H' := Aside0.mk H
                          clear H
                          go_wp2
                          go_roundg k3
                          case measure => have := HJ3.out; have := HK2.out; have := HK3.out; omega
                          case rel => exact ⟨(x5_3), (Int.tmod x1_2 x5_3), (x6_3), (by first | rfl | (simp; done) | (simp [*]; done)), (by first | rfl | (simp; done) | (simp [*]; done)), (by first | rfl | (simp; done) | (simp [*]; done)), H', ⟨by have := HJ3.out; have := HK2.out; have := HK3.out; omega⟩, by repeat (first | exact Drawn0.refl _ | apply Drawn0.step)⟩
                    · rw [if_neg c10] at H
                      have c10b0 : ((Int.tmod x5_3 4) == 3) = false := beq_eq_false_iff_ne.mpr c10
                      have c10b1 : ((Int.tmod x5_3 4) != 3) = true := bne_iff_ne.mpr c10
                      by_cases c14 : x5_3 = 0
                      · rw [if_pos c14] at H
                        exact absurd H (by simp)
                      · rw [if_neg c14] at H
                        have c14b0 : (x5_3 == 0) = false := beq_eq_false_iff_ne.mpr c14
                        have c14b1 : (x5_3 != 0) = true := bne_iff_ne.mpr c14
                        have H' := Aside0.mk H
                        clear H
                        go_wp2
                        go_roundg k3
                        case measure => have := HJ3.out; have := HK2.out; have := HK3.out; omega
                        case rel => exact ⟨(x5_3), (Int.tmod x1_2 x5_3), (x6_3), (by first | rfl | (simp; done) | (simp [*]; done)), (by first | rfl | (simp; done) | (simp [*]; done)), (by first | rfl | (simp; done) | (simp [*]; done)), H', ⟨by have := HJ3.out; have := HK2.out; have := HK3.out; omega⟩, by repeat (first | exact Drawn0.refl _ | apply Drawn0.step)⟩
            · rw [if_neg c6] at H
              have c6b0 : decide (0 < x5_2) = false := decide_eq_false c6
              clear c6
              by_cases c15 : x1_2 = 1
              · rw [if_pos c15] at H
                have c15b0 : (x1_2 == 1) = true := beq_iff_eq.mpr c15
                have c15b1 : (x1_2 != 1) = false := bne_eq_false_iff_eq.mpr c15
                clear c15
                obtain rfl := Option.some.inj H
                go_wp2
                go_ret
                exact ⟨by first | rfl | (simp; done) | (simp [*]; done), by repeat (first | exact Drawn0.refl _ | apply Drawn0.step)⟩
              · rw [if_neg c15] at H
                have c15b0 : (x1_2 == 1) = false := beq_eq_false_iff_ne.mpr c15
                have c15b1 : (x1_2 != 1) = true := bne_iff_ne.mpr c15
                obtain rfl := Option.some.inj H
                go_wp2
                go_ret
                exact ⟨by first | rfl | (simp; done) | (simp [*]; done), by repeat (first | exact Drawn0.refl _ | apply Drawn0.step)⟩

/-! ### parquetref04_Kronecker: function 13 -/
mutual
def parquetref04_Kronecker.j0 : Nat → Int → Int → Int → Bool → Option (Int)
  | 0, _, _, _, _ => none
  | k + 1, x0, x1, x5, x21 => if x21 = true then (parquetref04_Kronecker.j1 k x0 x1 (-1)) else (parquetref04_Kronecker.j1 k x0 x1 x5)
def parquetref04_Kronecker.j1 : Nat → Int → Int → Int → Option (Int)
  | 0, _, _, _ => none
  | k + 1, x0, x1, x5 => if x1 < 0 then (parquetref04_Kronecker.j2 k x0 x5 (IntKind.u64.wrap (-(IntKind.u64.wrap (x1))))) else (parquetref04_Kronecker.j2 k x0 x5 (IntKind.u64.wrap (x1)))
def parquetref04_Kronecker.j2 : Nat → Int → Int → Int → Option (Int)
  | 0, _, _, _ => none
  | k + 1, x0, x5, x6 => parquetref04_Kronecker.l0 k x0 x5 x6
def parquetref04_Kronecker.l0 : Nat → Int → Int → Int → Option (Int)
  | 0, _, _, _ => none
  | k + 1, x0, x5, x6 => if (Int.tmod x6 2) = 0 then ((parquetref04_Mod.f x0 8).bind fun t104 => (if (Int.tmod t104 2) = 0 then (some 0) else (if t104 = 3 then (parquetref04_Kronecker.l0 k x0 (wrap64 (-x5)) (IntKind.u64.wrap (Int.tdiv x6 2))) else (if t104 = 5 then (parquetref04_Kronecker.l0 k x0 (wrap64 (-x5)) (IntKind.u64.wrap (Int.tdiv x6 2))) else (parquetref04_Kronecker.l0 k x0 x5 (IntKind.u64.wrap (Int.tdiv x6 2))))))) else ((parquetref04_jacobi.f k x0 x6).bind fun t103 => (some (wrap64 (x5 * t103))))
end
def parquetref04_Kronecker.f (k : Nat) (a0 : Int) (a1 : Int) : Option (Int) := if a1 = 0 then (if a0 = 1 then (some 1) else (if a0 = (-1) then (some 1) else (some 0))) else (if a1 < 0 then (parquetref04_Kronecker.j0 k a0 a1 1 (decide (a0 < 0))) else (parquetref04_Kronecker.j0 k a0 a1 1 false))
theorem parquetref04_Kronecker.mono_l : ∀ k, (∀ y0 y1 y2 y3, LeO (parquetref04_Kronecker.j0 k y0 y1 y2 y3) (parquetref04_Kronecker.j0 (k + 1) y0 y1 y2 y3)) ∧ (∀ y0 y1 y2, LeO (parquetref04_Kronecker.j1 k y0 y1 y2) (parquetref04_Kronecker.j1 (k + 1) y0 y1 y2)) ∧ (∀ y0 y1 y2, LeO (parquetref04_Kronecker.j2 k y0 y1 y2) (parquetref04_Kronecker.j2 (k + 1) y0 y1 y2)) ∧ (∀ y0 y1 y2, LeO (parquetref04_Kronecker.l0 k y0 y1 y2) (parquetref04_Kronecker.l0 (k + 1) y0 y1 y2))
  | 0 => ⟨fun _ _ _ _ r h => by simp [parquetref04_Kronecker.j0] at h, fun _ _ _ r h => by simp [parquetref04_Kronecker.j1] at h, fun _ _ _ r h => by simp [parquetref04_Kronecker.j2] at h, fun _ _ _ r h => by simp [parquetref04_Kronecker.l0] at h⟩
  | k + 1 => by
    obtain ⟨ih0, ih1, ih2, ih3⟩ := parquetref04_Kronecker.mono_l k
    refine ⟨?_, ?_, ?_, ?_⟩
    · intro y0 y1 y2 y3
      unfold parquetref04_Kronecker.j0
      repeat' first
      | (with_reducible exact ih0 _ _ _ _)
      | (with_reducible exact ih1 _ _ _)
      | (with_reducible exact ih2 _ _ _)
      | (with_reducible exact ih3 _ _ _)
      | (with_reducible exact parquetref04_jacobi.mono _ _ _)
      | (with_reducible exact LeO.refl _)
      | (with_reducible exact LeO.none _)
      | (with_reducible refine LeO.ite ?_ ?_)
      | (with_reducible refine LeO.bind ?_ (fun _ => ?_))
      | exact ih0 _ _ _ _
      | exact ih1 _ _ _
      | exact ih2 _ _ _
      | exact ih3 _ _ _
      | exact parquetref04_jacobi.mono _ _ _
      | exact LeO.none _
      | refine LeO.ite ?_ ?_
      | refine LeO.bind ?_ (fun _ => ?_)
    · intro y0 y1 y2
      unfold parquetref04_Kronecker.j1
      repeat' first
      | (with_reducible exact ih0 _ _ _ _)
      | (with_reducible exact ih1 _ _ _)
      | (with_reducible exact ih2 _ _ _)
      | (with_reducible exact ih3 _ _ _)
      | (with_reducible exact parquetref04_jacobi.mono _ _ _)
      | (with_reducible exact LeO.refl _)
      | (with_reducible exact LeO.none _)
      | (with_reducible refine LeO.ite ?_ ?_)
      | (with_reducible refine LeO.bind ?_ (fun _ => ?_))
      | exact ih0 _ _ _ _
      | exact ih1 _ _ _
      | exact ih2 _ _ _
      | exact ih3 _ _ _
      | exact parquetref04_jacobi.mono _ _ _
      | exact LeO.none _
      | refine LeO.ite ?_ ?_
      | refine LeO.bind ?_ (fun _ => ?_)
    · intro y0 y1 y2
      unfold parquetref04_Kronecker.j2
      repeat' first
      | (with_reducible exact ih0 _ _ _ _)
      | (with_reducible exact ih1 _ _ _)
      | (with_reducible exact ih2 _ _ _)
      | (with_reducible exact ih3 _ _ _)
      | (with_reducible exact parquetref04_jacobi.mono _ _ _)
      | (with_reducible exact LeO.refl _)
      | (with_reducible exact LeO.none _)
      | (with_reducible refine LeO.ite ?_ ?_)
      | (with_reducible refine LeO.bind ?_ (fun _ => ?_))
      | exact ih0 _ _ _ _
      | exact ih1 _ _ _
      | exact ih2 _ _ _
      | exact ih3 _ _ _
      | exact parquetref04_jacobi.mono _ _ _
      | exact LeO.none _
      | refine LeO.ite ?_ ?_
      | refine LeO.bind ?_ (fun _ => ?_)
    · intro y0 y1 y2
      unfold parquetref04_Kronecker.l0
      repeat' first
      | (with_reducible exact ih0 _ _ _ _)
      | (with_reducible exact ih1 _ _ _)
      | (with_reducible exact ih2 _ _ _)
      | (with_reducible exact ih3 _ _ _)
      | (with_reducible exact parquetref04_jacobi.mono _ _ _)
      | (with_reducible exact LeO.refl _)
      | (with_reducible exact LeO.none _)
      | (with_reducible refine LeO.ite ?_ ?_)
      | (with_reducible refine LeO.bind ?_ (fun _ => ?_))
      | exact ih0 _ _ _ _
      | exact ih1 _ _ _
      | exact ih2 _ _ _
      | exact ih3 _ _ _
      | exact parquetref04_jacobi.mono _ _ _
      | exact LeO.none _
      | refine LeO.ite ?_ ?_
      | refine LeO.bind ?_ (fun _ => ?_)
theorem parquetref04_Kronecker.mono : ∀ a0 a1 k, LeO (parquetref04_Kronecker.f k a0 a1) (parquetref04_Kronecker.f (k + 1) a0 a1) := by
  intro a0 a1 k
  obtain ⟨ih0, ih1, ih2, ih3⟩ := parquetref04_Kronecker.mono_l k
  unfold parquetref04_Kronecker.f
  repeat' first
      | (with_reducible exact ih0 _ _ _ _)
      | (with_reducible exact ih1 _ _ _)
      | (with_reducible exact ih2 _ _ _)
      | (with_reducible exact ih3 _ _ _)
      | (with_reducible exact parquetref04_jacobi.mono _ _ _)
      | (with_reducible exact LeO.refl _)
      | (with_reducible exact LeO.none _)
      | (with_reducible refine LeO.ite ?_ ?_)
      | (with_reducible refine LeO.bind ?_ (fun _ => ?_))
      | exact ih0 _ _ _ _
      | exact ih1 _ _ _
      | exact ih2 _ _ _
      | exact ih3 _ _ _
      | exact parquetref04_jacobi.mono _ _ _
      | exact LeO.none _
      | refine LeO.ite ?_ ?_
      | refine LeO.bind ?_ (fun _ => ?_)
set_option maxHeartbeats 8000000 in
set_option maxRecDepth 100000 in
theorem parquetref04_Kronecker.calls (k : Nat) (a0 : Int) (a1 : Int) (r : Int) (w : World) (h : parquetref04_Kronecker.f k a0 a1 = some r) :
    Calls Try.prog 13 #[.int .i64 a0, .int .i64 a1] w fun e w' => e = .returned (.int .i64 r) ∧ Drawn0 w w' := by
  have H : (if a1 = 0 then (if a0 = 1 then (some 1) else (if a0 = (-1) then (some 1) else (some 0))) else (if a1 < 0 then (parquetref04_Kronecker.j0 k a0 a1 1 (decide (a0 < 0))) else (parquetref04_Kronecker.j0 k a0 a1 1 false))) = some r := h
  clear h
  by_cases c3 : a1 = 0
  · rw [if_pos c3] at H
    have c3b0 : (a1 == 0) = true := beq_iff_eq.mpr c3
    have c3b1 : (a1 != 0) = false := bne_eq_false_iff_eq.mpr c3
    clear c3
    by_cases c4 : a0 = 1
    · rw [if_pos c4] at H
      have c4b0 : (a0 == 1) = true := beq_iff_eq.mpr c4
      have c4b1 : (a0 != 1) = false := bne_eq_false_iff_eq.mpr c4
      clear c4
      obtain rfl := Option.some.inj H
      go_enter Try.func13, Try.ntmps13
      go_wp2
      go_ret
      exact ⟨by first | rfl | (simp; done) | (simp [*]; done), by repeat (first | exact Drawn0.refl _ | apply Drawn0.step)⟩
    · rw [if_neg c4] at H
      have c4b0 : (a0 == 1) = false := beq_eq_false_iff_ne.mpr c4
      have c4b1 : (a0 != 1) = true := bne_iff_ne.mpr c4
      by_cases c5 : a0 = (-1)
      · rw [if_pos c5] at H
        have c5b0 : (a0 == (-1)) = true := beq_iff_eq.mpr c5
        have c5b1 : (a0 != (-1)) = false := bne_eq_false_iff_eq.mpr c5
        clear c5
        obtain rfl := Option.some.inj H
        go_enter Try.func13, Try.ntmps13
        go_wp2
        go_ret
        exact ⟨by first | rfl | (simp; done) | (simp [*]; done), by repeat (first | exact Drawn0.refl _ | apply Drawn0.step)⟩
      · rw [if_neg c5] at H
        have c5b0 : (a0 == (-1)) = false := beq_eq_false_iff_ne.mpr c5
        have c5b1 : (a0 != (-1)) = true := bne_iff_ne.mpr c5
        obtain rfl := Option.some.inj H
        go_enter Try.func13, Try.ntmps13
        go_wp2
        go_ret
        exact ⟨by first | rfl | (simp; done) | (simp [*]; done), by repeat (first | exact Drawn0.refl _ | apply Drawn0.step)⟩
  · rw [if_neg c3] at H
    have c3b0 : (a1 == 0) = false := beq_eq_false_iff_ne.mpr c3
    have c3b1 : (a1 != 0) = true := bne_iff_ne.mpr c3
    have HC6 := Aside0.mk H
    clear H
    go_enter Try.func13, Try.ntmps13
    go_upto_region 6 with (fail)
    go_cut [21] (fun v21 wc => ∃ (kq : Nat) (x21_5 : Bool), v21 = .bool x21_5 ∧ Aside0 (parquetref04_Kronecker.j0 kq a0 a1 1 x21_5 = some r) ∧ Aside0 (kq ≤ k) ∧ Drawn0 w wc)
    case first =>
      have H := HC6.out
      clear HC6
      by_cases c7 : a1 < 0
      · rw [if_pos c7] at H
        have c7b0 : decide (a1 < 0) = true := decide_eq_true c7
        clear c7
        (first | rw [c7b0] | (simp only [i64_w, i32_w]; rw [c7b0]) | skip)
        have H' := Aside0.mk H
        clear H
        go_wp2
        go_meet
        case rel => exact ⟨_, (decide (a0 < 0)), (by first | rfl | (simp; done) | (simp [*]; done)), H', ⟨by first | omega | exact Nat.le_refl _⟩, by repeat (first | exact Drawn0.refl _ | apply Drawn0.step)⟩
      · rw [if_neg c7] at H
        have c7b0 : decide (a1 < 0) = false := decide_eq_false c7
        clear c7
        (first | rw [c7b0] | (simp only [i64_w, i32_w]; rw [c7b0]) | skip)
        have H' := Aside0.mk H
        clear H
        go_wp2
        go_meet
        case rel => exact ⟨_, (false), (by first | rfl | (simp; done) | (simp [*]; done)), H', ⟨by first | omega | exact Nat.le_refl _⟩, by repeat (first | exact Drawn0.refl _ | apply Drawn0.step)⟩
    case rest =>
      clear HC6
      try clear c1
      try clear p2
      try clear c3
      try clear c3b0
      try clear c3b1
      try clear c4
      try clear c4b0
      try clear c4b1
      try clear c5
      try clear c5b0
      try clear c5b1
      try clear c7
      try clear c7b0
      obtain ⟨kq, x21_5, rfl, HA, HJ5, ⟨mc5, rfl⟩⟩ := hcut
      cases kq with
      | zero => exact absurd HA.out (by simp [parquetref04_Kronecker.j0])
      | succ kj5 =>
        have H := HA.out
        clear HA
        simp only [parquetref04_Kronecker.j0] at H
        have HC8 := Aside0.mk H
        clear H
        go_upto_if 21 with (fail)
        go_cut [5] (fun v5 wc => ∃ (kq : Nat) (x5_7 : Int), v5 = .int .i64 x5_7 ∧ Aside0 (parquetref04_Kronecker.j1 kq a0 a1 x5_7 = some r) ∧ Aside0 (kq ≤ kj5) ∧ Drawn0 w wc)
        case first =>
          have H := HC8.out
          clear HC8
          by_cases c9 : x21_5 = true
          · subst c9
            have H1 : (parquetref04_Kronecker.j1 kj5 a0 a1 (-1)) = some r := by rw [if_pos rfl] at H; exact H
            clear H
            have H := H1
            clear H1
            have H' := Aside0.mk H
            clear H
            go_wp2
            go_meet
            case rel => exact ⟨_, ((-1)), (by first | rfl | (simp; done) | (simp [*]; done)), H', ⟨by have := HJ5.out; first | omega | exact Nat.le_refl _⟩, by repeat (first | exact Drawn0.refl _ | apply Drawn0.step)⟩
          · replace c9 := Bool.eq_false_iff.mpr c9
            subst c9
            have H1 : (parquetref04_Kronecker.j1 kj5 a0 a1 1) = some r := by rw [if_neg (show ¬ (false = true) by decide)] at H; exact H
            clear H
            have H := H1
            clear H1
            have H' := Aside0.mk H
            clear H
            go_wp2
            go_meet
            case rel => exact ⟨_, (1), (by first | rfl | (simp; done) | (simp [*]; done)), H', ⟨by have := HJ5.out; first | omega | exact Nat.le_refl _⟩, by repeat (first | exact Drawn0.refl _ | apply Drawn0.step)⟩
        case rest =>
          clear HC8
          try clear c1
          try clear p2
          try clear c3
          try clear c3b0
          try clear c3b1
          try clear c4
          try clear c4b0
          try clear c4b1
          try clear c5
          try clear c5b0
          try clear c5b1
          try clear c7
          try clear c7b0
          try clear c9
          try clear p2
          obtain ⟨kq, x5_7, rfl, HA, HJ7, ⟨mc7, rfl⟩⟩ := hcut
          cases kq with
          | zero => exact absurd HA.out (by simp [parquetref04_Kronecker.j1])
          | succ kj7 =>
            have H := HA.out
            clear HA
            simp only [parquetref04_Kronecker.j1] at H
            have HC10 := Aside0.mk H
            clear H
            go_upto_if 25 with (fail)
            go_cut [6] (fun v6 wc => ∃ (kq : Nat) (x6_9 : Int), v6 = .int .u64 x6_9 ∧ Aside0 (parquetref04_Kronecker.j2 kq a0 x5_7 x6_9 = some r) ∧ Aside0 (kq ≤ kj7) ∧ Drawn0 w wc)
            case first =>
              have H := HC10.out
              clear HC10
              by_cases c11 : a1 < 0
              · rw [if_pos c11] at H
                have c11b0 : decide (a1 < 0) = true := decide_eq_true c11
                clear c11
                (first | rw [c11b0] | (simp only [i64_w, i32_w]; rw [c11b0]) | skip)
                have H' := Aside0.mk H
                clear H
                go_wp2
                go_meet
                case rel => exact ⟨_, (IntKind.u64.wrap (-(IntKind.u64.wrap (a1)))), (by first | rfl | (simp; done) | (simp [*]; done)), H', ⟨by have := HJ5.out; have := HJ7.out; first | omega | exact Nat.le_refl _⟩, by repeat (first | exact Drawn0.refl _ | apply Drawn0.step)⟩
              · rw [if_neg c11] at H
                have c11b0 : decide (a1 < 0) = false := decide_eq_false c11
                clear c11
                (first | rw [c11b0] | (simp only [i64_w, i32_w]; rw [c11b0]) | skip)
                have H' := Aside0.mk H
                clear H
                go_wp2
                go_meet
                case rel => exact ⟨_, (IntKind.u64.wrap (a1)), (by first | rfl | (simp; done) | (simp [*]; done)), H', ⟨by have := HJ5.out; have := HJ7.out; first | omega | exact Nat.le_refl _⟩, by repeat (first | exact Drawn0.refl _ | apply Drawn0.step)⟩
            case rest =>
              clear HC10
              try clear c1
              try clear p2
              try clear c3
              try clear c3b0
              try clear c3b1
              try clear c4
              try clear c4b0
              try clear c4b1
              try clear c5
              try clear c5b0
              try clear c5b1
              try clear c7
              try clear c7b0
              try clear c9
              try clear c11
              try clear c11b0
              try clear p2
              obtain ⟨kq, x6_9, rfl, HA, HJ9, ⟨mc9, rfl⟩⟩ := hcut
              cases kq with
              | zero => exact absurd HA.out (by simp [parquetref04_Kronecker.j2])
              | succ kj9 =>
                have H := HA.out
                clear HA
                simp only [parquetref04_Kronecker.j2] at H
                have H' := Aside0.mk H
                clear H
                go_wp2
                go_loopg [5, 6] kj9 (fun kq v5 v6 w' => ∃ (x5_4 : Int) (x6_4 : Int), v5 = .int .i64 x5_4 ∧ v6 = .int .u64 x6_4 ∧ Aside0 (parquetref04_Kronecker.l0 kq a0 x5_4 x6_4 = some r) ∧ Aside0 (kq ≤ kj9) ∧ Drawn0 w w')
                case atStart => exact ⟨(x5_7), (x6_9), (by first | rfl | (simp; done) | (simp [*]; done)), (by first | rfl | (simp; done) | (simp [*]; done)), H', ⟨Nat.le_refl _⟩, by repeat (first | exact Drawn0.refl _ | apply Drawn0.step)⟩
                case round =>
                  clear H'
                  try clear c1
                  try clear p2
                  try clear c3
                  try clear c3b0
                  try clear c3b1
                  try clear c4
                  try clear c4b0
                  try clear c4b1
                  try clear c5
                  try clear c5b0
                  try clear c5b1
                  try clear c7
                  try clear c7b0
                  try clear c9
                  try clear c11
                  try clear c11b0
                  try clear p2
                  obtain ⟨x5_4, x6_4, rfl, rfl, HA, HK4, ⟨m4, rfl⟩⟩ := hrel
                  cases gk with
                  | zero => exact absurd HA.out (by simp [parquetref04_Kronecker.l0])
                  | succ k4 =>
                    have H := HA.out
                    clear HA
                    simp only [parquetref04_Kronecker.l0] at H
                    by_cases c12 : (Int.tmod x6_4 2) = 0
                    · rw [if_pos c12] at H
                      have c12b0 : ((Int.tmod x6_4 2) == 0) = true := beq_iff_eq.mpr c12
                      have c12b1 : ((Int.tmod x6_4 2) != 0) = false := bne_eq_false_iff_eq.mpr c12
                      clear c12
                      replace H := Option.bind_eq_some_iff.mp H
                      obtain ⟨t104, A130, H⟩ := H
                      replace H : (if (Int.tmod t104 2) = 0 then (some 0) else (if t104 = 3 then (parquetref04_Kronecker.l0 k4 a0 (wrap64 (-x5_4)) (IntKind.u64.wrap (Int.tdiv x6_4 2))) else (if t104 = 5 then (parquetref04_Kronecker.l0 k4 a0 (wrap64 (-x5_4)) (IntKind.u64.wrap (Int.tdiv x6_4 2))) else (parquetref04_Kronecker.l0 k4 a0 x5_4 (IntKind.u64.wrap (Int.tdiv x6_4 2)))))) = some r := H
                      have A13 := Aside0.mk A130
                      clear A130
                      by_cases c14 : (Int.tmod t104 2) = 0
                      · rw [if_pos c14] at H
                        have c14b0 : ((Int.tmod t104 2) == 0) = true := beq_iff_eq.mpr c14
                        have c14b1 : ((Int.tmod t104 2) != 0) = false := bne_eq_false_iff_eq.mpr c14
                        clear c14
                        obtain rfl := Option.some.inj H
                        go_wp2_with (first | ((with_reducible refine gate_callee (f := 34) rfl ?_); refine goesL_ (some 34) rfl rfl Try.func34 (by kernel_rfl) rfl #[.int .i64 a0, .int .i64 8] rfl (by (try simp only [List.map_toArray, List.map_cons, List.map_nil]); first | done | rfl | (simp only [List.length_drop, List.length_take]; rfl)) ?_; (with_reducible refine (parquetref04_Mod.calls a0 8 t104 _ A13.out).mono ?_); rintro e w' ⟨rfl, ⟨nd, rfl⟩⟩; refine ⟨_, rfl, ?_⟩))
                        go_ret
                        exact ⟨by first | rfl | (simp; done) | (simp [*]; done), by repeat (first | exact Drawn0.refl _ | apply Drawn0.step)⟩
                      · rw [if_neg c14] at H
                        have c14b0 : ((Int.tmod t104 2) == 0) = false := beq_eq_false_iff_ne.mpr c14
                        have c14b1 : ((Int.tmod t104 2) != 0) = true := bne_iff_ne.mpr c14
                        by_cases c15 : t104 = 3
                        · rw [if_pos c15] at H
                          have c15b0 : (t104 == 3) = true := beq_iff_eq.mpr c15
                          have c15b1 : (t104 != 3) = false := bne_eq_false_iff_eq.mpr c15
                          clear c15
                          have H' := Aside0.mk H
                          clear H
                          go_wp2_with (first | ((with_reducible refine gate_callee (f := 34) rfl ?_); refine goesL_ (some 34) rfl rfl Try.func34 (by kernel_rfl) rfl #[.int .i64 a0, .int .i64 8] rfl (by (try simp only [List.map_toArray, List.map_cons, List.map_nil]); first | done | rfl | (simp only [List.length_drop, List.length_take]; rfl)) ?_; (with_reducible refine (parquetref04_Mod.calls a0 8 t104 _ A13.out).mono ?_); rintro e w' ⟨rfl, ⟨nd, rfl⟩⟩; refine ⟨_, rfl, ?_⟩))
                          go_roundg k4
                          case measure => have := HJ5.out; have := HJ7.out; have := HJ9.out; have := HK4.out; omega
                          case rel => exact ⟨(wrap64 (-x5_4)), (IntKind.u64.wrap (Int.tdiv x6_4 2)), (by first | rfl | (simp; done) | (simp [*]; done)), (by first | rfl | (simp; done) | (simp [*]; done)), H', ⟨by have := HJ5.out; have := HJ7.out; have := HJ9.out; have := HK4.out; omega⟩, by repeat (first | exact Drawn0.refl _ | apply Drawn0.step)⟩
                        · rw [if_neg c15] at H
                          have c15b0 : (t104 == 3) = false := beq_eq_false_iff_ne.mpr c15
                          have c15b1 : (t104 != 3) = true := bne_iff_ne.mpr c15
                          by_cases c16 : t104 = 5
                          · rw [if_pos c16] at H
                            have c16b0 : (t104 == 5) = true := beq_iff_eq.mpr c16
                            have c16b1 : (t104 != 5) = false := bne_eq_false_iff_eq.mpr c16
                            clear c16
                            have H' := Aside0.mk H
                            clear H
                            go_wp2_with (first | ((with_reducible refine gate_callee (f := 34) rfl ?_); refine goesL_ (some 34) rfl rfl Try.func34 (by kernel_rfl) rfl #[.int .i64 a0, .int .i64 8] rfl (by (try simp only [List.map_toArray, List.map_cons, List.map_nil]); first | done | rfl | (simp only [List.length_drop, List.length_take]; rfl)) ?_; (with_reducible refine (parquetref04_Mod.calls a0 8 t104 _ A13.out).mono ?_); rintro e w' ⟨rfl, ⟨nd, rfl⟩⟩; refine ⟨_, rfl, ?_⟩))
                            go_roundg k4
                            case measure => have := HJ5.out; have := HJ7.out; have := HJ9.out; have := HK4.out; omega
                            case rel => exact ⟨(wrap64 (-x5_4)), (IntKind.u64.wrap (Int.tdiv x6_4 2)), (by first | rfl | (simp; done) | (simp [*]; done)), (by first | rfl | (simp; done) | (simp [*]; done)), H', ⟨by have := HJ5.out; have := HJ7.out; have := HJ9.out; have := HK4.out; omega⟩, by repeat (first | exact Drawn0.refl _ | apply Drawn0.step)⟩
                          · rw [if_neg c16] at H
                            have c16b0 : (t104 == 5) = false := beq_eq_false_iff_ne.mpr c16
                            have c16b1 : (t104 != 5) = true := bne_iff_ne.mpr c16
                            have H' := Aside0.mk H
                            clear H
                            go_wp2_with (first | ((with_reducible refine gate_callee (f := 34) rfl ?_); refine goesL_ (some 34) rfl rfl Try.func34 (by kernel_rfl) rfl #[.int .i64 a0, .int .i64 8] rfl (by (try simp only [List.map_toArray, List.map_cons, List.map_nil]); first | done | rfl | (simp only [List.length_drop, List.length_take]; rfl)) ?_; (with_reducible refine (parquetref04_Mod.calls a0 8 t104 _ A13.out).mono ?_); rintro e w' ⟨rfl, ⟨nd, rfl⟩⟩; refine ⟨_, rfl, ?_⟩))
                            go_roundg k4
                            case measure => have := HJ5.out; have := HJ7.out; have := HJ9.out; have := HK4.out; omega
                            case rel => exact ⟨(x5_4), (IntKind.u64.wrap (Int.tdiv x6_4 2)), (by first | rfl | (simp; done) | (simp [*]; done)), (by first | rfl | (simp; done) | (simp [*]; done)), H', ⟨by have := HJ5.out; have := HJ7.out; have := HJ9.out; have := HK4.out; omega⟩, by repeat (first | exact Drawn0.refl _ | apply Drawn0.step)⟩
                    · rw [if_neg c12] at H
                      have c12b0 : ((Int.tmod x6_4 2) == 0) = false := beq_eq_false_iff_ne.mpr c12
                      have c12b1 : ((Int.tmod x6_4 2) != 0) = true := bne_iff_ne.mpr c12
                      replace H := Option.bind_eq_some_iff.mp H
                      obtain ⟨t103, A170, H⟩ := H
                      replace H : (some (wrap64 (x5_4 * t103))) = some r := H
                      have A17 := Aside0.mk A170
                      clear A170
                      obtain rfl := Option.some.inj H
                      go_wp2_with (first | ((with_reducible refine gate_callee (f := 35) rfl ?_); refine goesL_ (some 51) rfl rfl Try.func35 (by kernel_rfl) rfl #[.int .i64 a0, .int .u64 x6_4] rfl (by (try simp only [List.map_toArray, List.map_cons, List.map_nil]); first | done | rfl | (simp only [List.length_drop, List.length_take]; rfl)) ?_; (with_reducible refine (parquetref04_jacobi.calls k4 a0 x6_4 t103 _ A17.out).mono ?_); rintro e w' ⟨rfl, ⟨nd, rfl⟩⟩; refine ⟨_, rfl, ?_⟩))
                      go_ret
                      exact ⟨by first | rfl | (simp; done) | (simp [*]; done), by repeat (first | exact Drawn0.refl _ | apply Drawn0.step)⟩

-- told in a text of ours: function 14 (parquetlaw04_wakes)

/-! ### parquetlaw04_ModularKroneckers: function 3 -/
def parquetlaw04_ModularKroneckers.f (k : Nat) (a0 : Int) (a1 : Int) : Option (Bool) := (modular_Kronecker.f k a0 a1).bind fun t105 => ((parquetref04_Kronecker.f k a0 a1).bind fun t106 => (if t105 = t106 then ((parquetlaw04_wakes.f).bind fun t107 => (some t107)) else (some false)))
theorem parquetlaw04_ModularKroneckers.mono : ∀ a0 a1 k, LeO (parquetlaw04_ModularKroneckers.f k a0 a1) (parquetlaw04_ModularKroneckers.f (k + 1) a0 a1) := by
  intro a0 a1 k
  unfold parquetlaw04_ModularKroneckers.f
  repeat' first
      | (with_reducible exact modular_Kronecker.mono _ _ _)
      | (with_reducible exact parquetref04_Kronecker.mono _ _ _)
      | (with_reducible exact LeO.refl _)
      | (with_reducible exact LeO.none _)
      | (with_reducible refine LeO.ite ?_ ?_)
      | (with_reducible refine LeO.bind ?_ (fun _ => ?_))
      | exact modular_Kronecker.mono _ _ _
      | exact parquetref04_Kronecker.mono _ _ _
      | exact LeO.none _
      | refine LeO.ite ?_ ?_
      | refine LeO.bind ?_ (fun _ => ?_)
set_option maxHeartbeats 8000000 in
set_option maxRecDepth 100000 in
theorem parquetlaw04_ModularKroneckers.calls (k : Nat) (a0 : Int) (a1 : Int) (r : Bool) (w : World) (h : parquetlaw04_ModularKroneckers.f k a0 a1 = some r) :
    Calls Try.prog 3 #[.int .i64 a0, .int .i64 a1] w fun e w' => e = .returned (.bool r) ∧ Below w.heap.size w w' := by
  have HB := Aside0.mk (Below.refl w.heap.size w)
  have H : ((modular_Kronecker.f k a0 a1).bind fun t105 => ((parquetref04_Kronecker.f k a0 a1).bind fun t106 => (if t105 = t106 then ((parquetlaw04_wakes.f).bind fun t107 => (some t107)) else (some false)))) = some r := h
  clear h
  replace H := Option.bind_eq_some_iff.mp H
  obtain ⟨t105, A30, H⟩ := H
  replace H : ((parquetref04_Kronecker.f k a0 a1).bind fun t106 => (if t105 = t106 then ((parquetlaw04_wakes.f).bind fun t107 => (some t107)) else (some false))) = some r := H
  have A3 := Aside0.mk A30
  clear A30
  replace H := Option.bind_eq_some_iff.mp H
  obtain ⟨t106, A40, H⟩ := H
  replace H : (if t105 = t106 then ((parquetlaw04_wakes.f).bind fun t107 => (some t107)) else (some false)) = some r := H
  have A4 := Aside0.mk A40
  clear A40
  by_cases c5 : t105 = t106
  · rw [if_pos c5] at H
    have c5b0 : (t105 == t106) = true := beq_iff_eq.mpr c5
    have c5b1 : (t105 != t106) = false := bne_eq_false_iff_eq.mpr c5
    clear c5
    replace H := Option.bind_eq_some_iff.mp H
    obtain ⟨t107, A60, H⟩ := H
    replace H : (some t107) = some r := H
    have A6 := Aside0.mk A60
    clear A60
    obtain rfl := Option.some.inj H
    go_enter Try.func3, Try.ntmps3
    go_wp2_with (first | ((with_reducible refine gate_callee (f := 12) rfl ?_); refine goesL_ (some 7) rfl rfl Try.func12 (by kernel_rfl) rfl #[.int .i64 a0, .int .i64 a1] rfl (by (try simp only [List.map_toArray, List.map_cons, List.map_nil]); first | done | rfl | (simp only [List.length_drop, List.length_take]; rfl)) ?_; (with_reducible refine (modular_Kronecker.calls k a0 a1 t105 _ A3.out).mono ?_); rintro e w' ⟨rfl, ⟨nd, rfl⟩⟩; refine ⟨_, rfl, ?_⟩) | ((with_reducible refine gate_callee (f := 13) rfl ?_); refine goesL_ (some 10) rfl rfl Try.func13 (by kernel_rfl) rfl #[.int .i64 a0, .int .i64 a1] rfl (by (try simp only [List.map_toArray, List.map_cons, List.map_nil]); first | done | rfl | (simp only [List.length_drop, List.length_take]; rfl)) ?_; (with_reducible refine (parquetref04_Kronecker.calls k a0 a1 t106 _ A4.out).mono ?_); rintro e w' ⟨rfl, ⟨nd, rfl⟩⟩; refine ⟨_, rfl, ?_⟩) | (go_at_call 14; (with_reducible refine (parquetlaw04_wakes.calls  t107 _ A6.out).mono ?_); rintro e w7 ⟨rfl, hb⟩; have n0_ := Aside0.mk (below_step (by repeat (first | (with_reducible first | exact HB.out | apply below_alloc | apply pw_below_drewN | apply below_drew1) | exact HB.out)) hb); clear HB; have HB := n0_; clear n0_; (try clear hb); (try clear hb2); (try clear hk); (try clear hi)))
    go_ret
    exact ⟨by first | rfl | (simp [errW_none, errW_some] <;> rfl) | (simp [*, errW_none, errW_some] <;> rfl), by repeat (first | (with_reducible first | exact HB.out | apply below_alloc | apply pw_below_drewN | apply below_drew1) | exact HB.out)⟩
  · rw [if_neg c5] at H
    have c5b0 : (t105 == t106) = false := beq_eq_false_iff_ne.mpr c5
    have c5b1 : (t105 != t106) = true := bne_iff_ne.mpr c5
    obtain rfl := Option.some.inj H
    go_enter Try.func3, Try.ntmps3
    go_wp2_with (first | ((with_reducible refine gate_callee (f := 12) rfl ?_); refine goesL_ (some 7) rfl rfl Try.func12 (by kernel_rfl) rfl #[.int .i64 a0, .int .i64 a1] rfl (by (try simp only [List.map_toArray, List.map_cons, List.map_nil]); first | done | rfl | (simp only [List.length_drop, List.length_take]; rfl)) ?_; (with_reducible refine (modular_Kronecker.calls k a0 a1 t105 _ A3.out).mono ?_); rintro e w' ⟨rfl, ⟨nd, rfl⟩⟩; refine ⟨_, rfl, ?_⟩) | ((with_reducible refine gate_callee (f := 13) rfl ?_); refine goesL_ (some 10) rfl rfl Try.func13 (by kernel_rfl) rfl #[.int .i64 a0, .int .i64 a1] rfl (by (try simp only [List.map_toArray, List.map_cons, List.map_nil]); first | done | rfl | (simp only [List.length_drop, List.length_take]; rfl)) ?_; (with_reducible refine (parquetref04_Kronecker.calls k a0 a1 t106 _ A4.out).mono ?_); rintro e w' ⟨rfl, ⟨nd, rfl⟩⟩; refine ⟨_, rfl, ?_⟩))
    go_ret
    exact ⟨by first | rfl | (simp [errW_none, errW_some] <;> rfl) | (simp [*, errW_none, errW_some] <;> rfl), by repeat (first | (with_reducible first | exact HB.out | apply below_alloc | apply pw_below_drewN | apply below_drew1) | exact HB.out)⟩

/-- THE ONE PURE STATEMENT of parquetlaw04_ModularKroneckers: yours. -/
def parquetlaw04_ModularKroneckers.Pure : Prop := ∀ (a0 : Int) (a1 : Int), (Lit.int .i64 a0).wf = true → (Lit.int .i64 a1).wf = true → ∃ k, parquetlaw04_ModularKroneckers.f k a0 a1 = some true
theorem parquetlaw04_ModularKroneckers.walk (P : parquetlaw04_ModularKroneckers.Pure) (a0 : Int) (a1 : Int) (w : World) (w0 : (Lit.int .i64 a0).wf = true) (w1 : (Lit.int .i64 a1).wf = true) :
    Calls Try.prog 3 #[.int .i64 a0, .int .i64 a1] w fun e w' => e = .returned (.bool true) ∧ Below w.heap.size w w' := by
  obtain ⟨k, h⟩ := P a0 a1 w0 w1
  refine (parquetlaw04_ModularKroneckers.calls k a0 a1 true w h).mono ?_
  rintro e w' ⟨rfl, hd⟩
  exact ⟨rfl, hd⟩

end Go.Proofs.Ytkgejfokdmdikaa.PModularKroneckers
