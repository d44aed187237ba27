-- Made by a program of this session's (fprint.py) over the kit's print.py: printed functions, and what is told of others in texts of ours.
import Derived.Test.YtkgejfokdmdikaaPModularCrtsx0
namespace Go.Proofs.Ytkgejfokdmdikaa.PModularCrts
open Go.RowKit Go.Proofs.YtkgejfokdmdikaaW.PrintWords Go.Proofs.YtkgejfokdmdikaaW.PrintLast Go.Proofs.YtkgejfokdmdikaaW.PrintMore
attribute [local go_sem] max2_int min2_int max_two min_two max_three min_three max_four min_four   -- for this text's walks alone
set_option linter.unusedVariables false
set_option linter.unusedSimpArgs false

-- told in a text of ours: function 14 (parquetlaw04_wakes)

-- told in a text of ours: function 36 (modular_mod)

-- told in a text of ours: function 38 (modular_times)

/-! ### modular_gcd: function 45 -/
def modular_gcd.l0 : Nat → Int → Int → Option (Int)
  | 0, _, _ => none
  | k + 1, x0, x1 => if x1 = 0 then (some x0) else (modular_gcd.l0 k x1 (Int.tmod x0 x1))
def modular_gcd.f (k : Nat) (a0 : Int) (a1 : Int) : Option (Int) := modular_gcd.l0 k a0 a1
theorem modular_gcd.mono_l : ∀ k, (∀ y0 y1, LeO (modular_gcd.l0 k y0 y1) (modular_gcd.l0 (k + 1) y0 y1))
  | 0 => fun _ _ r h => by simp [modular_gcd.l0] at h
  | k + 1 => by
    have ih0 := modular_gcd.mono_l k
    · intro y0 y1
      unfold modular_gcd.l0
      repeat' first
      | (with_reducible exact ih0 _ _)
      | (with_reducible exact LeO.refl _)
      | (with_reducible exact LeO.none _)
      | (with_reducible refine LeO.ite ?_ ?_)
      | (with_reducible refine LeO.bind ?_ (fun _ => ?_))
      | exact ih0 _ _
      | exact LeO.none _
      | refine LeO.ite ?_ ?_
      | refine LeO.bind ?_ (fun _ => ?_)
theorem modular_gcd.mono : ∀ a0 a1 k, LeO (modular_gcd.f k a0 a1) (modular_gcd.f (k + 1) a0 a1) := by
  intro a0 a1 k
  have ih0 := modular_gcd.mono_l k
  unfold modular_gcd.f
  repeat' first
      | (with_reducible exact ih0 _ _)
      | (with_reducible exact LeO.refl _)
      | (with_reducible exact LeO.none _)
      | (with_reducible refine LeO.ite ?_ ?_)
      | (with_reducible refine LeO.bind ?_ (fun _ => ?_))
      | exact ih0 _ _
      | exact LeO.none _
      | refine LeO.ite ?_ ?_
      | refine LeO.bind ?_ (fun _ => ?_)
set_option maxHeartbeats 8000000 in
set_option maxRecDepth 100000 in
theorem modular_gcd.calls (k : Nat) (a0 : Int) (a1 : Int) (r : Int) (w : World) (h : modular_gcd.f k a0 a1 = some r) :
    Calls Try.prog 45 #[.int .i64 a0, .int .i64 a1] w fun e w' => e = .returned (.int .i64 r) ∧ Drawn0 w w' := by
  have H : (modular_gcd.l0 k a0 a1) = some r := h
  clear h
  have H' := Aside0.mk H
  clear H
  go_enter Try.func45, Try.ntmps45
  go_wp2
  repeat (go_quiet (fail); try go_wp2)
  go_loopg [0, 1] k (fun kq v0 v1 w' => ∃ (x0_1 : Int) (x1_1 : Int), v0 = .int .i64 x0_1 ∧ v1 = .int .i64 x1_1 ∧ Aside0 (modular_gcd.l0 kq x0_1 x1_1 = some r) ∧ Aside0 (kq ≤ k) ∧ Drawn0 w w')
  case atStart => exact ⟨(a0), (a1), (by first | rfl | (simp; done) | (simp [*]; done)), (by first | rfl | (simp; done) | (simp [*]; done)), H', ⟨Nat.le_refl _⟩, by repeat (first | exact Drawn0.refl _ | apply Drawn0.step)⟩
  case round =>
    clear H'
    try clear p2
    obtain ⟨x0_1, x1_1, rfl, rfl, HA, HK1, ⟨m1, rfl⟩⟩ := hrel
    cases gk with
    | zero => exact absurd HA.out (by simp [modular_gcd.l0])
    | succ k1 =>
      have H := HA.out
      clear HA
      simp only [modular_gcd.l0] at H
      by_cases c3 : x1_1 = 0
      · rw [if_pos c3] at H
        have c3b0 : (x1_1 == 0) = true := beq_iff_eq.mpr c3
        have c3b1 : (x1_1 != 0) = false := bne_eq_false_iff_eq.mpr c3
        clear c3
        obtain rfl := Option.some.inj H
        go_wp2
        repeat (go_quiet (fail); try go_wp2)
        go_ret
        exact ⟨by first | rfl | (simp; done) | (simp [*]; done), by repeat (first | exact Drawn0.refl _ | apply Drawn0.step)⟩
      · rw [if_neg c3] at H
        have c3b0 : (x1_1 == 0) = false := beq_eq_false_iff_ne.mpr c3
        have c3b1 : (x1_1 != 0) = true := bne_iff_ne.mpr c3
        have H' := Aside0.mk H
        clear H
        go_wp2
        repeat (go_quiet (fail); try go_wp2)
        go_roundg k1
        case measure => have := HK1.out; omega
        case rel => exact ⟨(x1_1), (Int.tmod x0_1 x1_1), (by first | rfl | (simp; done) | (simp [*]; done)), (by first | rfl | (simp; done) | (simp [*]; done)), H', ⟨by have := HK1.out; omega⟩, by repeat (first | exact Drawn0.refl _ | apply Drawn0.step)⟩

/-! ### modular_inverse: function 46 -/
def modular_inverse.l0 : Nat → Int → Int → Int → Int → Int → Option (Int)
  | 0, _, _, _, _, _ => none
  | k + 1, x1, x5, x6, x7, x8 => if x6 = 0 then ((modular_mod.f x7 x1).bind fun t102 => (some t102)) else (modular_inverse.l0 k x1 x6 (wrap64 (x5 - (wrap64 ((wrap64 (Int.tdiv x5 x6)) * x6)))) x8 (wrap64 (x7 - (wrap64 ((wrap64 (Int.tdiv x5 x6)) * x8)))))
def modular_inverse.f (k : Nat) (a0 : Int) (a1 : Int) : Option (Int) := (modular_mod.f a0 a1).bind fun t101 => (modular_inverse.l0 k a1 a1 t101 0 1)
theorem modular_inverse.mono_l : ∀ k, (∀ y0 y1 y2 y3 y4, LeO (modular_inverse.l0 k y0 y1 y2 y3 y4) (modular_inverse.l0 (k + 1) y0 y1 y2 y3 y4))
  | 0 => fun _ _ _ _ _ r h => by simp [modular_inverse.l0] at h
  | k + 1 => by
    have ih0 := modular_inverse.mono_l k
    · intro y0 y1 y2 y3 y4
      unfold modular_inverse.l0
      repeat' first
      | (with_reducible exact ih0 _ _ _ _ _)
      | (with_reducible exact LeO.refl _)
      | (with_reducible exact LeO.none _)
      | (with_reducible refine LeO.ite ?_ ?_)
      | (with_reducible refine LeO.bind ?_ (fun _ => ?_))
      | exact ih0 _ _ _ _ _
      | exact LeO.none _
      | refine LeO.ite ?_ ?_
      | refine LeO.bind ?_ (fun _ => ?_)
theorem modular_inverse.mono : ∀ a0 a1 k, LeO (modular_inverse.f k a0 a1) (modular_inverse.f (k + 1) a0 a1) := by
  intro a0 a1 k
  have ih0 := modular_inverse.mono_l k
  unfold modular_inverse.f
  repeat' first
      | (with_reducible exact ih0 _ _ _ _ _)
      | (with_reducible exact LeO.refl _)
      | (with_reducible exact LeO.none _)
      | (with_reducible refine LeO.ite ?_ ?_)
      | (with_reducible refine LeO.bind ?_ (fun _ => ?_))
      | exact ih0 _ _ _ _ _
      | exact LeO.none _
      | refine LeO.ite ?_ ?_
      | refine LeO.bind ?_ (fun _ => ?_)
set_option maxHeartbeats 8000000 in
set_option maxRecDepth 100000 in
theorem modular_inverse.calls (k : Nat) (a0 : Int) (a1 : Int) (r : Int) (w : World) (h : modular_inverse.f k a0 a1 = some r) :
    Calls Try.prog 46 #[.int .i64 a0, .int .i64 a1] w fun e w' => e = .returned (.int .i64 r) ∧ Drawn0 w w' := by
  have H : ((modular_mod.f a0 a1).bind fun t101 => (modular_inverse.l0 k a1 a1 t101 0 1)) = some r := h
  clear h
  replace H := Option.bind_eq_some_iff.mp H
  obtain ⟨t101, A30, H⟩ := H
  replace H : (modular_inverse.l0 k a1 a1 t101 0 1) = some r := H
  have A3 := Aside0.mk A30
  clear A30
  have H' := Aside0.mk H
  clear H
  go_enter Try.func46, Try.ntmps46
  go_wp2_with (first | ((with_reducible refine gate_callee (f := 36) rfl ?_); refine goesL_ (some 13) rfl rfl Try.func36 (by kernel_rfl) rfl #[.int .i64 a0, .int .i64 a1] rfl (by (try simp only [List.map_toArray, List.map_cons, List.map_nil]); first | done | rfl | (simp only [List.length_drop, List.length_take]; rfl)) ?_; (with_reducible refine (modular_mod.calls a0 a1 t101 _ A3.out).mono ?_); rintro e w' ⟨rfl, ⟨nd, rfl⟩⟩; refine ⟨_, rfl, ?_⟩))
  go_loopg [5, 6, 7, 8] k (fun kq v5 v6 v7 v8 w' => ∃ (x5_1 : Int) (x6_1 : Int) (x7_1 : Int) (x8_1 : Int), v5 = .int .i64 x5_1 ∧ v6 = .int .i64 x6_1 ∧ v7 = .int .i64 x7_1 ∧ v8 = .int .i64 x8_1 ∧ Aside0 (modular_inverse.l0 kq a1 x5_1 x6_1 x7_1 x8_1 = some r) ∧ Aside0 (kq ≤ k) ∧ Drawn0 w w')
  case atStart => exact ⟨(a1), (t101), (0), (1), (by first | rfl | (simp; done) | (simp [*]; done)), (by first | rfl | (simp; done) | (simp [*]; done)), (by first | rfl | (simp; done) | (simp [*]; done)), (by first | rfl | (simp; done) | (simp [*]; done)), H', ⟨Nat.le_refl _⟩, by repeat (first | exact Drawn0.refl _ | apply Drawn0.step)⟩
  case round =>
    clear H'
    try clear p2
    try clear c3
    obtain ⟨x5_1, x6_1, x7_1, x8_1, rfl, rfl, rfl, rfl, HA, HK1, ⟨m1, rfl⟩⟩ := hrel
    cases gk with
    | zero => exact absurd HA.out (by simp [modular_inverse.l0])
    | succ k1 =>
      have H := HA.out
      clear HA
      simp only [modular_inverse.l0] at H
      by_cases c4 : x6_1 = 0
      · rw [if_pos c4] at H
        have c4b0 : (x6_1 == 0) = true := beq_iff_eq.mpr c4
        have c4b1 : (x6_1 != 0) = false := bne_eq_false_iff_eq.mpr c4
        clear c4
        replace H := Option.bind_eq_some_iff.mp H
        obtain ⟨t102, A50, H⟩ := H
        replace H : (some t102) = some r := H
        have A5 := Aside0.mk A50
        clear A50
        obtain rfl := Option.some.inj H
        go_wp2_with (first | ((with_reducible refine gate_callee (f := 36) rfl ?_); refine goesL_ (some 33) rfl rfl Try.func36 (by kernel_rfl) rfl #[.int .i64 x7_1, .int .i64 a1] rfl (by (try simp only [List.map_toArray, List.map_cons, List.map_nil]); first | done | rfl | (simp only [List.length_drop, List.length_take]; rfl)) ?_; (with_reducible refine (modular_mod.calls x7_1 a1 t102 _ A5.out).mono ?_); rintro e w' ⟨rfl, ⟨nd, rfl⟩⟩; refine ⟨_, rfl, ?_⟩))
        go_ret
        exact ⟨by first | rfl | (simp; done) | (simp [*]; done), by repeat (first | exact Drawn0.refl _ | apply Drawn0.step)⟩
      · rw [if_neg c4] at H
        have c4b0 : (x6_1 == 0) = false := beq_eq_false_iff_ne.mpr c4
        have c4b1 : (x6_1 != 0) = true := bne_iff_ne.mpr c4
        have H' := Aside0.mk H
        clear H
        go_wp2
        go_roundg k1
        case measure => have := HK1.out; omega
        case rel => exact ⟨(x6_1), (wrap64 (x5_1 - (wrap64 ((wrap64 (Int.tdiv x5_1 x6_1)) * x6_1)))), (x8_1), (wrap64 (x7_1 - (wrap64 ((wrap64 (Int.tdiv x5_1 x6_1)) * x8_1)))), (by first | rfl | (simp; done) | (simp [*]; done)), (by first | rfl | (simp; done) | (simp [*]; done)), (by first | rfl | (simp; done) | (simp [*]; done)), (by first | rfl | (simp; done) | (simp [*]; done)), H', ⟨by have := HK1.out; omega⟩, by repeat (first | exact Drawn0.refl _ | apply Drawn0.step)⟩

/-! ### modular_Crt: function 29 -/
def modular_Crt.j0 : Nat → Int → Int → Int → Int → Bool → Option (Int × Int × Int)
  | 0, _, _, _, _, _ => none
  | k + 1, x0, x1, x2, x3, x27 => if x27 = true then (some (0, 0, 2)) else ((modular_gcd.f k x1 x3).bind fun t103 => ((modular_mod.f x0 x1).bind fun t104 => ((modular_mod.f x2 x3).bind fun t105 => (if t103 = 0 then (none) else (if (Int.tmod (wrap64 (t105 - t104)) t103) = 0 then (if (wrap64 (Int.tdiv x3 t103)) = 0 then (none) else (if x1 > (wrap64 (Int.tdiv (4611686018427387904 : Int) (wrap64 (Int.tdiv x3 t103)))) then (some (0, 0, 3)) else ((modular_mod.f (wrap64 (Int.tdiv (wrap64 (t105 - t104)) t103)) (wrap64 (Int.tdiv x3 t103))).bind fun t106 => ((modular_inverse.f k (wrap64 (Int.tdiv x1 t103)) (wrap64 (Int.tdiv x3 t103))).bind fun t107 => ((modular_times.f t106 t107 (wrap64 (Int.tdiv x3 t103))).bind fun t108 => (some (wrap64 (t104 + (wrap64 (x1 * t108))), wrap64 (x1 * (wrap64 (Int.tdiv x3 t103))), 0))))))) else (some (0, 0, 41)))))))
def modular_Crt.f (k : Nat) (a0 : Int) (a1 : Int) (a2 : Int) (a3 : Int) : Option (Int × Int × Int) := if a1 < 1 then (modular_Crt.j0 k a0 a1 a2 a3 true) else (if a1 > 4611686018427387904 then (modular_Crt.j0 k a0 a1 a2 a3 true) else (if a3 < 1 then (modular_Crt.j0 k a0 a1 a2 a3 true) else (modular_Crt.j0 k a0 a1 a2 a3 (decide (a3 > 4611686018427387904)))))
theorem modular_Crt.mono_l : ∀ k, (∀ y0 y1 y2 y3 y4, LeO (modular_Crt.j0 k y0 y1 y2 y3 y4) (modular_Crt.j0 (k + 1) y0 y1 y2 y3 y4))
  | 0 => fun _ _ _ _ _ r h => by simp [modular_Crt.j0] at h
  | k + 1 => by
    have ih0 := modular_Crt.mono_l k
    · intro y0 y1 y2 y3 y4
      unfold modular_Crt.j0
      repeat' first
      | (with_reducible exact ih0 _ _ _ _ _)
      | (with_reducible exact modular_gcd.mono _ _ _)
      | (with_reducible exact modular_inverse.mono _ _ _)
      | (with_reducible exact LeO.refl _)
      | (with_reducible exact LeO.none _)
      | (with_reducible refine LeO.ite ?_ ?_)
      | (with_reducible refine LeO.bind ?_ (fun _ => ?_))
      | exact ih0 _ _ _ _ _
      | exact modular_gcd.mono _ _ _
      | exact modular_inverse.mono _ _ _
      | exact LeO.none _
      | refine LeO.ite ?_ ?_
      | refine LeO.bind ?_ (fun _ => ?_)
theorem modular_Crt.mono : ∀ a0 a1 a2 a3 k, LeO (modular_Crt.f k a0 a1 a2 a3) (modular_Crt.f (k + 1) a0 a1 a2 a3) := by
  intro a0 a1 a2 a3 k
  have ih0 := modular_Crt.mono_l k
  unfold modular_Crt.f
  repeat' first
      | (with_reducible exact ih0 _ _ _ _ _)
      | (with_reducible exact modular_gcd.mono _ _ _)
      | (with_reducible exact modular_inverse.mono _ _ _)
      | (with_reducible exact LeO.refl _)
      | (with_reducible exact LeO.none _)
      | (with_reducible refine LeO.ite ?_ ?_)
      | (with_reducible refine LeO.bind ?_ (fun _ => ?_))
      | exact ih0 _ _ _ _ _
      | exact modular_gcd.mono _ _ _
      | exact modular_inverse.mono _ _ _
      | exact LeO.none _
      | refine LeO.ite ?_ ?_
      | refine LeO.bind ?_ (fun _ => ?_)
set_option maxHeartbeats 8000000 in
set_option maxRecDepth 100000 in
theorem modular_Crt.calls (k : Nat) (a0 : Int) (a1 : Int) (a2 : Int) (a3 : Int) (r1 : Int) (r2 : Int) (r3 : Int) (w : World) (h : modular_Crt.f k a0 a1 a2 a3 = some (r1, r2, r3)) :
    Calls Try.prog 29 #[.int .i64 a0, .int .i64 a1, .int .i64 a2, .int .i64 a3] w fun e w' => e = .returned (.tuple #[.int .i64 r1, .int .i64 r2, .int .i64 r3]) ∧ Drawn0 w w' := by
  have H : (if a1 < 1 then (modular_Crt.j0 k a0 a1 a2 a3 true) else (if a1 > 4611686018427387904 then (modular_Crt.j0 k a0 a1 a2 a3 true) else (if a3 < 1 then (modular_Crt.j0 k a0 a1 a2 a3 true) else (modular_Crt.j0 k a0 a1 a2 a3 (decide (a3 > 4611686018427387904)))))) = some (r1, r2, r3) := h
  clear h
  have HC5 := Aside0.mk H
  clear H
  go_enter Try.func29, Try.ntmps29
  go_upto_region 1 with (fail)
  repeat (go_quiet (fail); go_upto_region 1 with (fail))
  go_cut [27] (fun v27 wc => ∃ (kq : Nat) (x27_4 : Bool), v27 = .bool x27_4 ∧ Aside0 (modular_Crt.j0 kq a0 a1 a2 a3 x27_4 = some (r1, r2, r3)) ∧ Aside0 (kq ≤ k) ∧ Drawn0 w wc)
  case first =>
    have H := HC5.out
    clear HC5
    by_cases c6 : a1 < 1
    · rw [if_pos c6] at H
      have c6b0 : decide (a1 < 1) = true := decide_eq_true c6
      clear c6
      (first | rw [c6b0] | (simp only [i64_w, i32_w]; rw [c6b0]) | skip)
      have H' := Aside0.mk H
      clear H
      go_wp2
      repeat (go_quiet (fail); try go_wp2)
      go_meet
      case rel => exact ⟨_, (true), (by first | rfl | (simp; done) | (simp [*]; done)), H', ⟨by first | omega | exact Nat.le_refl _⟩, by repeat (first | exact Drawn0.refl _ | apply Drawn0.step)⟩
    · rw [if_neg c6] at H
      have c6b0 : decide (a1 < 1) = false := decide_eq_false c6
      clear c6
      (first | rw [c6b0] | (simp only [i64_w, i32_w]; rw [c6b0]) | skip)
      by_cases c7 : a1 > 4611686018427387904
      · rw [if_pos c7] at H
        have c7b0 : decide (4611686018427387904 < a1) = true := decide_eq_true c7
        clear c7
        have H' := Aside0.mk H
        clear H
        go_wp2
        repeat (go_quiet (fail); try go_wp2)
        go_meet
        case rel => exact ⟨_, (true), (by first | rfl | (simp; done) | (simp [*]; done)), H', ⟨by first | omega | exact Nat.le_refl _⟩, by repeat (first | exact Drawn0.refl _ | apply Drawn0.step)⟩
      · rw [if_neg c7] at H
        have c7b0 : decide (4611686018427387904 < a1) = false := decide_eq_false c7
        clear c7
        by_cases c8 : a3 < 1
        · rw [if_pos c8] at H
          have c8b0 : decide (a3 < 1) = true := decide_eq_true c8
          clear c8
          have H' := Aside0.mk H
          clear H
          go_wp2
          repeat (go_quiet (fail); try go_wp2)
          go_meet
          case rel => exact ⟨_, (true), (by first | rfl | (simp; done) | (simp [*]; done)), H', ⟨by first | omega | exact Nat.le_refl _⟩, by repeat (first | exact Drawn0.refl _ | apply Drawn0.step)⟩
        · rw [if_neg c8] at H
          have c8b0 : decide (a3 < 1) = false := decide_eq_false c8
          clear c8
          have H' := Aside0.mk H
          clear H
          go_wp2
          repeat (go_quiet (fail); try go_wp2)
          go_meet
          case rel => exact ⟨_, (decide (a3 > 4611686018427387904)), (by first | rfl | (simp; done) | (simp [*]; done)), H', ⟨by first | omega | exact Nat.le_refl _⟩, by repeat (first | exact Drawn0.refl _ | apply Drawn0.step)⟩
  case rest =>
    clear HC5
    try clear c2
    try clear p2
    try clear c6
    try clear c6b0
    try clear c7
    try clear c7b0
    try clear c8
    try clear c8b0
    obtain ⟨kq, x27_4, rfl, HA, HJ4, ⟨mc4, rfl⟩⟩ := hcut
    cases kq with
    | zero => exact absurd HA.out (by simp [modular_Crt.j0])
    | succ kj4 =>
      have H := HA.out
      clear HA
      simp only [modular_Crt.j0] at H
      by_cases c9 : x27_4 = true
      · subst c9
        have H1 : (some (0, 0, 2)) = some (r1, r2, r3) := by rw [if_pos rfl] at H; exact H
        clear H
        have H := H1
        clear H1
        simp only [Option.some.injEq, Prod.mk.injEq] at H
        obtain ⟨rfl, rfl, rfl⟩ := H
        go_wp2
        repeat (go_quiet (fail); try go_wp2)
        go_ret3
        exact ⟨by first | rfl | (simp; done) | (simp [*]; done), by repeat (first | exact Drawn0.refl _ | apply Drawn0.step)⟩
      · replace c9 := Bool.eq_false_iff.mpr c9
        subst c9
        have H1 : ((modular_gcd.f kj4 a1 a3).bind fun t103 => ((modular_mod.f a0 a1).bind fun t104 => ((modular_mod.f a2 a3).bind fun t105 => (if t103 = 0 then (none) else (if (Int.tmod (wrap64 (t105 - t104)) t103) = 0 then (if (wrap64 (Int.tdiv a3 t103)) = 0 then (none) else (if a1 > (wrap64 (Int.tdiv (4611686018427387904 : Int) (wrap64 (Int.tdiv a3 t103)))) then (some (0, 0, 3)) else ((modular_mod.f (wrap64 (Int.tdiv (wrap64 (t105 - t104)) t103)) (wrap64 (Int.tdiv a3 t103))).bind fun t106 => ((modular_inverse.f kj4 (wrap64 (Int.tdiv a1 t103)) (wrap64 (Int.tdiv a3 t103))).bind fun t107 => ((modular_times.f t106 t107 (wrap64 (Int.tdiv a3 t103))).bind fun t108 => (some (wrap64 (t104 + (wrap64 (a1 * t108))), wrap64 (a1 * (wrap64 (Int.tdiv a3 t103))), 0))))))) else (some (0, 0, 41))))))) = some (r1, r2, r3) := by rw [if_neg (show ¬ (false = true) by decide)] at H; exact H
        clear H
        have H := H1
        clear H1
        replace H := Option.bind_eq_some_iff.mp H
        obtain ⟨t103, A100, H⟩ := H
        replace H : ((modular_mod.f a0 a1).bind fun t104 => ((modular_mod.f a2 a3).bind fun t105 => (if t103 = 0 then (none) else (if (Int.tmod (wrap64 (t105 - t104)) t103) = 0 then (if (wrap64 (Int.tdiv a3 t103)) = 0 then (none) else (if a1 > (wrap64 (Int.tdiv (4611686018427387904 : Int) (wrap64 (Int.tdiv a3 t103)))) then (some (0, 0, 3)) else ((modular_mod.f (wrap64 (Int.tdiv (wrap64 (t105 - t104)) t103)) (wrap64 (Int.tdiv a3 t103))).bind fun t106 => ((modular_inverse.f kj4 (wrap64 (Int.tdiv a1 t103)) (wrap64 (Int.tdiv a3 t103))).bind fun t107 => ((modular_times.f t106 t107 (wrap64 (Int.tdiv a3 t103))).bind fun t108 => (some (wrap64 (t104 + (wrap64 (a1 * t108))), wrap64 (a1 * (wrap64 (Int.tdiv a3 t103))), 0))))))) else (some (0, 0, 41)))))) = some (r1, r2, r3) := H
        have A10 := Aside0.mk A100
        clear A100
        replace H := Option.bind_eq_some_iff.mp H
        obtain ⟨t104, A110, H⟩ := H
        replace H : ((modular_mod.f a2 a3).bind fun t105 => (if t103 = 0 then (none) else (if (Int.tmod (wrap64 (t105 - t104)) t103) = 0 then (if (wrap64 (Int.tdiv a3 t103)) = 0 then (none) else (if a1 > (wrap64 (Int.tdiv (4611686018427387904 : Int) (wrap64 (Int.tdiv a3 t103)))) then (some (0, 0, 3)) else ((modular_mod.f (wrap64 (Int.tdiv (wrap64 (t105 - t104)) t103)) (wrap64 (Int.tdiv a3 t103))).bind fun t106 => ((modular_inverse.f kj4 (wrap64 (Int.tdiv a1 t103)) (wrap64 (Int.tdiv a3 t103))).bind fun t107 => ((modular_times.f t106 t107 (wrap64 (Int.tdiv a3 t103))).bind fun t108 => (some (wrap64 (t104 + (wrap64 (a1 * t108))), wrap64 (a1 * (wrap64 (Int.tdiv a3 t103))), 0))))))) else (some (0, 0, 41))))) = some (r1, r2, r3) := H
        have A11 := Aside0.mk A110
        clear A110
        replace H := Option.bind_eq_some_iff.mp H
        obtain ⟨t105, A120, H⟩ := H
        replace H : (if t103 = 0 then (none) else (if (Int.tmod (wrap64 (t105 - t104)) t103) = 0 then (if (wrap64 (Int.tdiv a3 t103)) = 0 then (none) else (if a1 > (wrap64 (Int.tdiv (4611686018427387904 : Int) (wrap64 (Int.tdiv a3 t103)))) then (some (0, 0, 3)) else ((modular_mod.f (wrap64 (Int.tdiv (wrap64 (t105 - t104)) t103)) (wrap64 (Int.tdiv a3 t103))).bind fun t106 => ((modular_inverse.f kj4 (wrap64 (Int.tdiv a1 t103)) (wrap64 (Int.tdiv a3 t103))).bind fun t107 => ((modular_times.f t106 t107 (wrap64 (Int.tdiv a3 t103))).bind fun t108 => (some (wrap64 (t104 + (wrap64 (a1 * t108))), wrap64 (a1 * (wrap64 (Int.tdiv a3 t103))), 0))))))) else (some (0, 0, 41)))) = some (r1, r2, r3) := H
        have A12 := Aside0.mk A120
        clear A120
        by_cases c13 : t103 = 0
        · rw [if_pos c13] at H
          exact absurd H (by simp)
        · rw [if_neg c13] at H
          have c13b0 : (t103 == 0) = false := beq_eq_false_iff_ne.mpr c13
          have c13b1 : (t103 != 0) = true := bne_iff_ne.mpr c13
          by_cases c14 : (Int.tmod (wrap64 (t105 - t104)) t103) = 0
          · rw [if_pos c14] at H
            have c14b0 : ((Int.tmod (wrap64 (t105 - t104)) t103) == 0) = true := beq_iff_eq.mpr c14
            have c14b1 : ((Int.tmod (wrap64 (t105 - t104)) t103) != 0) = false := bne_eq_false_iff_eq.mpr c14
            clear c14
            by_cases c15 : (wrap64 (Int.tdiv a3 t103)) = 0
            · rw [if_pos c15] at H
              exact absurd H (by simp)
            · rw [if_neg c15] at H
              have c15b0 : ((wrap64 (Int.tdiv a3 t103)) == 0) = false := beq_eq_false_iff_ne.mpr c15
              have c15b1 : ((wrap64 (Int.tdiv a3 t103)) != 0) = true := bne_iff_ne.mpr c15
              by_cases c16 : a1 > (wrap64 (Int.tdiv (4611686018427387904 : Int) (wrap64 (Int.tdiv a3 t103))))
              · rw [if_pos c16] at H
                have c16b0 : decide ((wrap64 (Int.tdiv (4611686018427387904 : Int) (wrap64 (Int.tdiv a3 t103)))) < a1) = true := decide_eq_true c16
                clear c16
                simp only [Option.some.injEq, Prod.mk.injEq] at H
                obtain ⟨rfl, rfl, rfl⟩ := H
                go_wp2_with (first | (go_at_call 45; (with_reducible refine (modular_gcd.calls kj4 a1 a3 t103 _ A10.out).mono ?_); rintro e w' ⟨rfl, ⟨nd, rfl⟩⟩; (try first | exact ⟨rfl, _, World.drewN_drewN _ _ _⟩ | exact ⟨rfl, _, Eq.trans (World.drewN_drewN _ _ _) (congrArg (World.drewN _) (Nat.add_assoc _ _ _))⟩)) | (go_at_call 36; (with_reducible refine (modular_mod.calls a0 a1 t104 _ A11.out).mono ?_); rintro e w' ⟨rfl, ⟨nd, rfl⟩⟩; (try first | exact ⟨rfl, _, World.drewN_drewN _ _ _⟩ | exact ⟨rfl, _, Eq.trans (World.drewN_drewN _ _ _) (congrArg (World.drewN _) (Nat.add_assoc _ _ _))⟩)) | (go_at_call 36; (with_reducible refine (modular_mod.calls a2 a3 t105 _ A12.out).mono ?_); rintro e w' ⟨rfl, ⟨nd, rfl⟩⟩; (try first | exact ⟨rfl, _, World.drewN_drewN _ _ _⟩ | exact ⟨rfl, _, Eq.trans (World.drewN_drewN _ _ _) (congrArg (World.drewN _) (Nat.add_assoc _ _ _))⟩)))
                repeat (go_quiet (first | (go_at_call 45; (with_reducible refine (modular_gcd.calls kj4 a1 a3 t103 _ A10.out).mono ?_); rintro e w' ⟨rfl, ⟨nd, rfl⟩⟩; (try first | exact ⟨rfl, _, World.drewN_drewN _ _ _⟩ | exact ⟨rfl, _, Eq.trans (World.drewN_drewN _ _ _) (congrArg (World.drewN _) (Nat.add_assoc _ _ _))⟩)) | (go_at_call 36; (with_reducible refine (modular_mod.calls a0 a1 t104 _ A11.out).mono ?_); rintro e w' ⟨rfl, ⟨nd, rfl⟩⟩; (try first | exact ⟨rfl, _, World.drewN_drewN _ _ _⟩ | exact ⟨rfl, _, Eq.trans (World.drewN_drewN _ _ _) (congrArg (World.drewN _) (Nat.add_assoc _ _ _))⟩)) | (go_at_call 36; (with_reducible refine (modular_mod.calls a2 a3 t105 _ A12.out).mono ?_); rintro e w' ⟨rfl, ⟨nd, rfl⟩⟩; (try first | exact ⟨rfl, _, World.drewN_drewN _ _ _⟩ | exact ⟨rfl, _, Eq.trans (World.drewN_drewN _ _ _) (congrArg (World.drewN _) (Nat.add_assoc _ _ _))⟩))); try go_wp2_with (first | (go_at_call 45; (with_reducible refine (modular_gcd.calls kj4 a1 a3 t103 _ A10.out).mono ?_); rintro e w' ⟨rfl, ⟨nd, rfl⟩⟩; (try first | exact ⟨rfl, _, World.drewN_drewN _ _ _⟩ | exact ⟨rfl, _, Eq.trans (World.drewN_drewN _ _ _) (congrArg (World.drewN _) (Nat.add_assoc _ _ _))⟩)) | (go_at_call 36; (with_reducible refine (modular_mod.calls a0 a1 t104 _ A11.out).mono ?_); rintro e w' ⟨rfl, ⟨nd, rfl⟩⟩; (try first | exact ⟨rfl, _, World.drewN_drewN _ _ _⟩ | exact ⟨rfl, _, Eq.trans (World.drewN_drewN _ _ _) (congrArg (World.drewN _) (Nat.add_assoc _ _ _))⟩)) | (go_at_call 36; (with_reducible refine (modular_mod.calls a2 a3 t105 _ A12.out).mono ?_); rintro e w' ⟨rfl, ⟨nd, rfl⟩⟩; (try first | exact ⟨rfl, _, World.drewN_drewN _ _ _⟩ | exact ⟨rfl, _, Eq.trans (World.drewN_drewN _ _ _) (congrArg (World.drewN _) (Nat.add_assoc _ _ _))⟩))))
                go_ret3
                exact ⟨by first | rfl | (simp; done) | (simp [*]; done), by repeat (first | exact Drawn0.refl _ | apply Drawn0.step)⟩
              · rw [if_neg c16] at H
                have c16b0 : decide ((wrap64 (Int.tdiv (4611686018427387904 : Int) (wrap64 (Int.tdiv a3 t103)))) < a1) = false := decide_eq_false c16
                clear c16
                replace H := Option.bind_eq_some_iff.mp H
                obtain ⟨t106, A170, H⟩ := H
                replace H : ((modular_inverse.f kj4 (wrap64 (Int.tdiv a1 t103)) (wrap64 (Int.tdiv a3 t103))).bind fun t107 => ((modular_times.f t106 t107 (wrap64 (Int.tdiv a3 t103))).bind fun t108 => (some (wrap64 (t104 + (wrap64 (a1 * t108))), wrap64 (a1 * (wrap64 (Int.tdiv a3 t103))), 0)))) = some (r1, r2, r3) := H
                have A17 := Aside0.mk A170
                clear A170
                replace H := Option.bind_eq_some_iff.mp H
                obtain ⟨t107, A180, H⟩ := H
                replace H : ((modular_times.f t106 t107 (wrap64 (Int.tdiv a3 t103))).bind fun t108 => (some (wrap64 (t104 + (wrap64 (a1 * t108))), wrap64 (a1 * (wrap64 (Int.tdiv a3 t103))), 0))) = some (r1, r2, r3) := H
                have A18 := Aside0.mk A180
                clear A180
                replace H := Option.bind_eq_some_iff.mp H
                obtain ⟨t108, A190, H⟩ := H
                replace H : (some (wrap64 (t104 + (wrap64 (a1 * t108))), wrap64 (a1 * (wrap64 (Int.tdiv a3 t103))), 0)) = some (r1, r2, r3) := H
                have A19 := Aside0.mk A190
                clear A190
                simp only [Option.some.injEq, Prod.mk.injEq] at H
                obtain ⟨rfl, rfl, rfl⟩ := H
                go_wp2_with (first | (go_at_call 45; (with_reducible refine (modular_gcd.calls kj4 a1 a3 t103 _ A10.out).mono ?_); rintro e w' ⟨rfl, ⟨nd, rfl⟩⟩; (try first | exact ⟨rfl, _, World.drewN_drewN _ _ _⟩ | exact ⟨rfl, _, Eq.trans (World.drewN_drewN _ _ _) (congrArg (World.drewN _) (Nat.add_assoc _ _ _))⟩)) | (go_at_call 36; (with_reducible refine (modular_mod.calls a0 a1 t104 _ A11.out).mono ?_); rintro e w' ⟨rfl, ⟨nd, rfl⟩⟩; (try first | exact ⟨rfl, _, World.drewN_drewN _ _ _⟩ | exact ⟨rfl, _, Eq.trans (World.drewN_drewN _ _ _) (congrArg (World.drewN _) (Nat.add_assoc _ _ _))⟩)) | (go_at_call 36; (with_reducible refine (modular_mod.calls a2 a3 t105 _ A12.out).mono ?_); rintro e w' ⟨rfl, ⟨nd, rfl⟩⟩; (try first | exact ⟨rfl, _, World.drewN_drewN _ _ _⟩ | exact ⟨rfl, _, Eq.trans (World.drewN_drewN _ _ _) (congrArg (World.drewN _) (Nat.add_assoc _ _ _))⟩)) | (go_at_call 36; (with_reducible refine (modular_mod.calls (wrap64 (Int.tdiv (wrap64 (t105 - t104)) t103)) (wrap64 (Int.tdiv a3 t103)) t106 _ A17.out).mono ?_); rintro e w' ⟨rfl, ⟨nd, rfl⟩⟩; (try first | exact ⟨rfl, _, World.drewN_drewN _ _ _⟩ | exact ⟨rfl, _, Eq.trans (World.drewN_drewN _ _ _) (congrArg (World.drewN _) (Nat.add_assoc _ _ _))⟩)) | (go_at_call 46; (with_reducible refine (modular_inverse.calls kj4 (wrap64 (Int.tdiv a1 t103)) (wrap64 (Int.tdiv a3 t103)) t107 _ A18.out).mono ?_); rintro e w' ⟨rfl, ⟨nd, rfl⟩⟩; (try first | exact ⟨rfl, _, World.drewN_drewN _ _ _⟩ | exact ⟨rfl, _, Eq.trans (World.drewN_drewN _ _ _) (congrArg (World.drewN _) (Nat.add_assoc _ _ _))⟩)) | (go_at_call 38; (with_reducible refine (modular_times.calls t106 t107 (wrap64 (Int.tdiv a3 t103)) t108 _ A19.out).mono ?_); rintro e w' ⟨rfl, ⟨nd, rfl⟩⟩; (try first | exact ⟨rfl, _, World.drewN_drewN _ _ _⟩ | exact ⟨rfl, _, Eq.trans (World.drewN_drewN _ _ _) (congrArg (World.drewN _) (Nat.add_assoc _ _ _))⟩)))
                repeat (go_quiet (first | (go_at_call 45; (with_reducible refine (modular_gcd.calls kj4 a1 a3 t103 _ A10.out).mono ?_); rintro e w' ⟨rfl, ⟨nd, rfl⟩⟩; (try first | exact ⟨rfl, _, World.drewN_drewN _ _ _⟩ | exact ⟨rfl, _, Eq.trans (World.drewN_drewN _ _ _) (congrArg (World.drewN _) (Nat.add_assoc _ _ _))⟩)) | (go_at_call 36; (with_reducible refine (modular_mod.calls a0 a1 t104 _ A11.out).mono ?_); rintro e w' ⟨rfl, ⟨nd, rfl⟩⟩; (try first | exact ⟨rfl, _, World.drewN_drewN _ _ _⟩ | exact ⟨rfl, _, Eq.trans (World.drewN_drewN _ _ _) (congrArg (World.drewN _) (Nat.add_assoc _ _ _))⟩)) | (go_at_call 36; (with_reducible refine (modular_mod.calls a2 a3 t105 _ A12.out).mono ?_); rintro e w' ⟨rfl, ⟨nd, rfl⟩⟩; (try first | exact ⟨rfl, _, World.drewN_drewN _ _ _⟩ | exact ⟨rfl, _, Eq.trans (World.drewN_drewN _ _ _) (congrArg (World.drewN _) (Nat.add_assoc _ _ _))⟩)) | (go_at_call 36; (with_reducible refine (modular_mod.calls (wrap64 (Int.tdiv (wrap64 (t105 - t104)) t103)) (wrap64 (Int.tdiv a3 t103)) t106 _ A17.out).mono ?_); rintro e w' ⟨rfl, ⟨nd, rfl⟩⟩; (try first | exact ⟨rfl, _, World.drewN_drewN _ _ _⟩ | exact ⟨rfl, _, Eq.trans (World.drewN_drewN _ _ _) (congrArg (World.drewN _) (Nat.add_assoc _ _ _))⟩)) | (go_at_call 46; (with_reducible refine (modular_inverse.calls kj4 (wrap64 (Int.tdiv a1 t103)) (wrap64 (Int.tdiv a3 t103)) t107 _ A18.out).mono ?_); rintro e w' ⟨rfl, ⟨nd, rfl⟩⟩; (try first | exact ⟨rfl, _, World.drewN_drewN _ _ _⟩ | exact ⟨rfl, _, Eq.trans (World.drewN_drewN _ _ _) (congrArg (World.drewN _) (Nat.add_assoc _ _ _))⟩)) | (go_at_call 38; (with_reducible refine (modular_times.calls t106 t107 (wrap64 (Int.tdiv a3 t103)) t108 _ A19.out).mono ?_); rintro e w' ⟨rfl, ⟨nd, rfl⟩⟩; (try first | exact ⟨rfl, _, World.drewN_drewN _ _ _⟩ | exact ⟨rfl, _, Eq.trans (World.drewN_drewN _ _ _) (congrArg (World.drewN _) (Nat.add_assoc _ _ _))⟩))); try go_wp2_with (first | (go_at_call 45; (with_reducible refine (modular_gcd.calls kj4 a1 a3 t103 _ A10.out).mono ?_); rintro e w' ⟨rfl, ⟨nd, rfl⟩⟩; (try first | exact ⟨rfl, _, World.drewN_drewN _ _ _⟩ | exact ⟨rfl, _, Eq.trans (World.drewN_drewN _ _ _) (congrArg (World.drewN _) (Nat.add_assoc _ _ _))⟩)) | (go_at_call 36; (with_reducible refine (modular_mod.calls a0 a1 t104 _ A11.out).mono ?_); rintro e w' ⟨rfl, ⟨nd, rfl⟩⟩; (try first | exact ⟨rfl, _, World.drewN_drewN _ _ _⟩ | exact ⟨rfl, _, Eq.trans (World.drewN_drewN _ _ _) (congrArg (World.drewN _) (Nat.add_assoc _ _ _))⟩)) | (go_at_call 36; (with_reducible refine (modular_mod.calls a2 a3 t105 _ A12.out).mono ?_); rintro e w' ⟨rfl, ⟨nd, rfl⟩⟩; (try first | exact ⟨rfl, _, World.drewN_drewN _ _ _⟩ | exact ⟨rfl, _, Eq.trans (World.drewN_drewN _ _ _) (congrArg (World.drewN _) (Nat.add_assoc _ _ _))⟩)) | (go_at_call 36; (with_reducible refine (modular_mod.calls (wrap64 (Int.tdiv (wrap64 (t105 - t104)) t103)) (wrap64 (Int.tdiv a3 t103)) t106 _ A17.out).mono ?_); rintro e w' ⟨rfl, ⟨nd, rfl⟩⟩; (try first | exact ⟨rfl, _, World.drewN_drewN _ _ _⟩ | exact ⟨rfl, _, Eq.trans (World.drewN_drewN _ _ _) (congrArg (World.drewN _) (Nat.add_assoc _ _ _))⟩)) | (go_at_call 46; (with_reducible refine (modular_inverse.calls kj4 (wrap64 (Int.tdiv a1 t103)) (wrap64 (Int.tdiv a3 t103)) t107 _ A18.out).mono ?_); rintro e w' ⟨rfl, ⟨nd, rfl⟩⟩; (try first | exact ⟨rfl, _, World.drewN_drewN _ _ _⟩ | exact ⟨rfl, _, Eq.trans (World.drewN_drewN _ _ _) (congrArg (World.drewN _) (Nat.add_assoc _ _ _))⟩)) | (go_at_call 38; (with_reducible refine (modular_times.calls t106 t107 (wrap64 (Int.tdiv a3 t103)) t108 _ A19.out).mono ?_); rintro e w' ⟨rfl, ⟨nd, rfl⟩⟩; (try first | exact ⟨rfl, _, World.drewN_drewN _ _ _⟩ | exact ⟨rfl, _, Eq.trans (World.drewN_drewN _ _ _) (congrArg (World.drewN _) (Nat.add_assoc _ _ _))⟩))))
                go_ret3
                exact ⟨by first | rfl | (simp; done) | (simp [*]; done), by repeat (first | exact Drawn0.refl _ | apply Drawn0.step)⟩
          · rw [if_neg c14] at H
            have c14b0 : ((Int.tmod (wrap64 (t105 - t104)) t103) == 0) = false := beq_eq_false_iff_ne.mpr c14
            have c14b1 : ((Int.tmod (wrap64 (t105 - t104)) t103) != 0) = true := bne_iff_ne.mpr c14
            simp only [Option.some.injEq, Prod.mk.injEq] at H
            obtain ⟨rfl, rfl, rfl⟩ := H
            go_wp2_with (first | (go_at_call 45; (with_reducible refine (modular_gcd.calls kj4 a1 a3 t103 _ A10.out).mono ?_); rintro e w' ⟨rfl, ⟨nd, rfl⟩⟩; (try first | exact ⟨rfl, _, World.drewN_drewN _ _ _⟩ | exact ⟨rfl, _, Eq.trans (World.drewN_drewN _ _ _) (congrArg (World.drewN _) (Nat.add_assoc _ _ _))⟩)) | (go_at_call 36; (with_reducible refine (modular_mod.calls a0 a1 t104 _ A11.out).mono ?_); rintro e w' ⟨rfl, ⟨nd, rfl⟩⟩; (try first | exact ⟨rfl, _, World.drewN_drewN _ _ _⟩ | exact ⟨rfl, _, Eq.trans (World.drewN_drewN _ _ _) (congrArg (World.drewN _) (Nat.add_assoc _ _ _))⟩)) | (go_at_call 36; (with_reducible refine (modular_mod.calls a2 a3 t105 _ A12.out).mono ?_); rintro e w' ⟨rfl, ⟨nd, rfl⟩⟩; (try first | exact ⟨rfl, _, World.drewN_drewN _ _ _⟩ | exact ⟨rfl, _, Eq.trans (World.drewN_drewN _ _ _) (congrArg (World.drewN _) (Nat.add_assoc _ _ _))⟩)))
            repeat (go_quiet (first | (go_at_call 45; (with_reducible refine (modular_gcd.calls kj4 a1 a3 t103 _ A10.out).mono ?_); rintro e w' ⟨rfl, ⟨nd, rfl⟩⟩; (try first | exact ⟨rfl, _, World.drewN_drewN _ _ _⟩ | exact ⟨rfl, _, Eq.trans (World.drewN_drewN _ _ _) (congrArg (World.drewN _) (Nat.add_assoc _ _ _))⟩)) | (go_at_call 36; (with_reducible refine (modular_mod.calls a0 a1 t104 _ A11.out).mono ?_); rintro e w' ⟨rfl, ⟨nd, rfl⟩⟩; (try first | exact ⟨rfl, _, World.drewN_drewN _ _ _⟩ | exact ⟨rfl, _, Eq.trans (World.drewN_drewN _ _ _) (congrArg (World.drewN _) (Nat.add_assoc _ _ _))⟩)) | (go_at_call 36; (with_reducible refine (modular_mod.calls a2 a3 t105 _ A12.out).mono ?_); rintro e w' ⟨rfl, ⟨nd, rfl⟩⟩; (try first | exact ⟨rfl, _, World.drewN_drewN _ _ _⟩ | exact ⟨rfl, _, Eq.trans (World.drewN_drewN _ _ _) (congrArg (World.drewN _) (Nat.add_assoc _ _ _))⟩))); try go_wp2_with (first | (go_at_call 45; (with_reducible refine (modular_gcd.calls kj4 a1 a3 t103 _ A10.out).mono ?_); rintro e w' ⟨rfl, ⟨nd, rfl⟩⟩; (try first | exact ⟨rfl, _, World.drewN_drewN _ _ _⟩ | exact ⟨rfl, _, Eq.trans (World.drewN_drewN _ _ _) (congrArg (World.drewN _) (Nat.add_assoc _ _ _))⟩)) | (go_at_call 36; (with_reducible refine (modular_mod.calls a0 a1 t104 _ A11.out).mono ?_); rintro e w' ⟨rfl, ⟨nd, rfl⟩⟩; (try first | exact ⟨rfl, _, World.drewN_drewN _ _ _⟩ | exact ⟨rfl, _, Eq.trans (World.drewN_drewN _ _ _) (congrArg (World.drewN _) (Nat.add_assoc _ _ _))⟩)) | (go_at_call 36; (with_reducible refine (modular_mod.calls a2 a3 t105 _ A12.out).mono ?_); rintro e w' ⟨rfl, ⟨nd, rfl⟩⟩; (try first | exact ⟨rfl, _, World.drewN_drewN _ _ _⟩ | exact ⟨rfl, _, Eq.trans (World.drewN_drewN _ _ _) (congrArg (World.drewN _) (Nat.add_assoc _ _ _))⟩))))
            go_ret3
            exact ⟨by first | rfl | (simp; done) | (simp [*]; done), by repeat (first | exact Drawn0.refl _ | apply Drawn0.step)⟩

-- told in a text of ours: function 34 (parquetref04_Mod)

-- told in a text of ours: function 40 (parquetref04_Times)

/-! ### parquetref04_Common: function 47 -/
def parquetref04_Common.l0 : Nat → Int → Int → Option (Int)
  | 0, _, _ => none
  | k + 1, x0, x1 => if x1 > 0 then (if x1 = 0 then (none) else (parquetref04_Common.l0 k x1 (Int.tmod x0 x1))) else (some x0)
def parquetref04_Common.f (k : Nat) (a0 : Int) (a1 : Int) : Option (Int) := parquetref04_Common.l0 k (mx a0 (wrap64 (-a0))) (mx a1 (wrap64 (-a1)))
theorem parquetref04_Common.mono_l : ∀ k, (∀ y0 y1, LeO (parquetref04_Common.l0 k y0 y1) (parquetref04_Common.l0 (k + 1) y0 y1))
  | 0 => fun _ _ r h => by simp [parquetref04_Common.l0] at h
  | k + 1 => by
    have ih0 := parquetref04_Common.mono_l k
    · intro y0 y1
      unfold parquetref04_Common.l0
      repeat' first
      | (with_reducible exact ih0 _ _)
      | (with_reducible exact LeO.refl _)
      | (with_reducible exact LeO.none _)
      | (with_reducible refine LeO.ite ?_ ?_)
      | (with_reducible refine LeO.bind ?_ (fun _ => ?_))
      | exact ih0 _ _
      | exact LeO.none _
      | refine LeO.ite ?_ ?_
      | refine LeO.bind ?_ (fun _ => ?_)
theorem parquetref04_Common.mono : ∀ a0 a1 k, LeO (parquetref04_Common.f k a0 a1) (parquetref04_Common.f (k + 1) a0 a1) := by
  intro a0 a1 k
  have ih0 := parquetref04_Common.mono_l k
  unfold parquetref04_Common.f
  repeat' first
      | (with_reducible exact ih0 _ _)
      | (with_reducible exact LeO.refl _)
      | (with_reducible exact LeO.none _)
      | (with_reducible refine LeO.ite ?_ ?_)
      | (with_reducible refine LeO.bind ?_ (fun _ => ?_))
      | exact ih0 _ _
      | exact LeO.none _
      | refine LeO.ite ?_ ?_
      | refine LeO.bind ?_ (fun _ => ?_)
set_option maxHeartbeats 8000000 in
set_option maxRecDepth 100000 in
theorem parquetref04_Common.calls (k : Nat) (a0 : Int) (a1 : Int) (r : Int) (w : World) (h : parquetref04_Common.f k a0 a1 = some r) :
    Calls Try.prog 47 #[.int .i64 a0, .int .i64 a1] w fun e w' => e = .returned (.int .i64 r) ∧ Below w.heap.size w w' := by
  have HB := Aside0.mk (Below.refl w.heap.size w)
  have H : (parquetref04_Common.l0 k (mx a0 (wrap64 (-a0))) (mx a1 (wrap64 (-a1)))) = some r := h
  clear h
  obtain ⟨ji3, hji3⟩ : ∃ j_ : Int, (mx a0 (wrap64 (-a0))) = j_ := ⟨_, rfl⟩
  replace H : (parquetref04_Common.l0 k ji3 (mx a1 (wrap64 (-a1)))) = some r := by first | (rw [hji3] at H; exact H) | (simp only [hji3] at H ⊢; exact H)
  have hji3_ : (if a0 < (wrap64 (-a0)) then (wrap64 (-a0)) else a0) = ji3 := hji3
  obtain ⟨ji4, hji4⟩ : ∃ j_ : Int, (mx a1 (wrap64 (-a1))) = j_ := ⟨_, rfl⟩
  replace H : (parquetref04_Common.l0 k ji3 ji4) = some r := by first | (rw [hji4] at H; exact H) | (simp only [hji4] at H ⊢; exact H)
  have hji4_ : (if a1 < (wrap64 (-a1)) then (wrap64 (-a1)) else a1) = ji4 := hji4
  have H' := Aside0.mk H
  clear H
  go_enter Try.func47, Try.ntmps47
  go_wp2
  go_loopg [0, 1] k (fun kq v0 v1 w' => ∃ (x0_1 : Int) (x1_1 : Int), v0 = .int .i64 x0_1 ∧ v1 = .int .i64 x1_1 ∧ Aside0 (parquetref04_Common.l0 kq x0_1 x1_1 = some r) ∧ Aside0 (kq ≤ k) ∧ Aside0 (Below w.heap.size w w'))
  case atStart => exact ⟨(ji3), (ji4), (by first | rfl | (simp; done) | (simp only [← hji3] <;> (first | rfl | simp)) | (simp [*]; done)), (by first | rfl | (simp; done) | (simp only [← hji4] <;> (first | rfl | simp)) | (simp [*]; done)), H', ⟨Nat.le_refl _⟩, ⟨by repeat (first | (with_reducible first | exact HB.out | apply below_alloc | apply pw_below_drewN | apply below_drew1) | exact HB.out)⟩⟩
  case round =>
    clear H'
    try clear p2
    try clear c4
    obtain ⟨x0_1, x1_1, rfl, rfl, HA, HK1, HB⟩ := hrel
    cases gk with
    | zero => exact absurd HA.out (by simp [parquetref04_Common.l0])
    | succ k1 =>
      have H := HA.out
      clear HA
      simp only [parquetref04_Common.l0] at H
      by_cases c5 : x1_1 > 0
      · rw [if_pos c5] at H
        have c5b0 : decide (0 < x1_1) = true := decide_eq_true c5
        clear c5
        by_cases c6 : x1_1 = 0
        · rw [if_pos c6] at H
          exact absurd H (by simp)
        · rw [if_neg c6] at H
          have c6b0 : (x1_1 == 0) = false := beq_eq_false_iff_ne.mpr c6
          have c6b1 : (x1_1 != 0) = true := bne_iff_ne.mpr c6
          have H' := Aside0.mk H
          clear H
          go_wp2
          go_roundg k1
          case measure => have := HK1.out; omega
          case rel => exact ⟨(x1_1), (Int.tmod x0_1 x1_1), (by first | rfl | (simp; done) | (simp [*]; done)), (by first | rfl | (simp; done) | (simp [*]; done)), H', ⟨by have := HK1.out; omega⟩, ⟨by repeat (first | (with_reducible first | exact HB.out | apply below_alloc | apply pw_below_drewN | apply below_drew1) | exact HB.out)⟩⟩
      · rw [if_neg c5] at H
        have c5b0 : decide (0 < x1_1) = false := decide_eq_false c5
        clear c5
        obtain rfl := Option.some.inj H
        go_wp2
        go_ret
        exact ⟨by first | rfl | (simp [errW_none, errW_some] <;> rfl) | (simp only [← hji3, ← hji4]; first | rfl | (simp [errW_none, errW_some] <;> rfl)) | (simp [*, errW_none, errW_some] <;> rfl), by repeat (first | (with_reducible first | exact HB.out | apply below_alloc | apply pw_below_drewN | apply below_drew1) | exact HB.out)⟩

/-! ### parquetref04_turned: function 48 -/
def parquetref04_turned.l0 : Nat → Int → Int → Int → Int → Int → Option (Int)
  | 0, _, _, _, _, _ => none
  | k + 1, x1, x5, x6, x7, x8 => if x6 > 0 then (if x6 = 0 then (none) else (parquetref04_turned.l0 k x1 x6 (wrap64 (x5 - (wrap64 ((wrap64 (Int.tdiv x5 x6)) * x6)))) x8 (wrap64 (x7 - (wrap64 ((wrap64 (Int.tdiv x5 x6)) * x8)))))) else ((parquetref04_Mod.f x7 x1).bind fun t110 => (some t110))
def parquetref04_turned.f (k : Nat) (a0 : Int) (a1 : Int) : Option (Int) := (parquetref04_Mod.f a0 a1).bind fun t109 => (parquetref04_turned.l0 k a1 a1 t109 0 1)
theorem parquetref04_turned.mono_l : ∀ k, (∀ y0 y1 y2 y3 y4, LeO (parquetref04_turned.l0 k y0 y1 y2 y3 y4) (parquetref04_turned.l0 (k + 1) y0 y1 y2 y3 y4))
  | 0 => fun _ _ _ _ _ r h => by simp [parquetref04_turned.l0] at h
  | k + 1 => by
    have ih0 := parquetref04_turned.mono_l k
    · intro y0 y1 y2 y3 y4
      unfold parquetref04_turned.l0
      repeat' first
      | (with_reducible exact ih0 _ _ _ _ _)
      | (with_reducible exact LeO.refl _)
      | (with_reducible exact LeO.none _)
      | (with_reducible refine LeO.ite ?_ ?_)
      | (with_reducible refine LeO.bind ?_ (fun _ => ?_))
      | exact ih0 _ _ _ _ _
      | exact LeO.none _
      | refine LeO.ite ?_ ?_
      | refine LeO.bind ?_ (fun _ => ?_)
theorem parquetref04_turned.mono : ∀ a0 a1 k, LeO (parquetref04_turned.f k a0 a1) (parquetref04_turned.f (k + 1) a0 a1) := by
  intro a0 a1 k
  have ih0 := parquetref04_turned.mono_l k
  unfold parquetref04_turned.f
  repeat' first
      | (with_reducible exact ih0 _ _ _ _ _)
      | (with_reducible exact LeO.refl _)
      | (with_reducible exact LeO.none _)
      | (with_reducible refine LeO.ite ?_ ?_)
      | (with_reducible refine LeO.bind ?_ (fun _ => ?_))
      | exact ih0 _ _ _ _ _
      | exact LeO.none _
      | refine LeO.ite ?_ ?_
      | refine LeO.bind ?_ (fun _ => ?_)
set_option maxHeartbeats 8000000 in
set_option maxRecDepth 100000 in
theorem parquetref04_turned.calls (k : Nat) (a0 : Int) (a1 : Int) (r : Int) (w : World) (h : parquetref04_turned.f k a0 a1 = some r) :
    Calls Try.prog 48 #[.int .i64 a0, .int .i64 a1] w fun e w' => e = .returned (.int .i64 r) ∧ Drawn0 w w' := by
  have H : ((parquetref04_Mod.f a0 a1).bind fun t109 => (parquetref04_turned.l0 k a1 a1 t109 0 1)) = some r := h
  clear h
  replace H := Option.bind_eq_some_iff.mp H
  obtain ⟨t109, A30, H⟩ := H
  replace H : (parquetref04_turned.l0 k a1 a1 t109 0 1) = some r := H
  have A3 := Aside0.mk A30
  clear A30
  have H' := Aside0.mk H
  clear H
  go_enter Try.func48, Try.ntmps48
  go_wp2_with (first | ((with_reducible refine gate_callee (f := 34) rfl ?_); refine goesL_ (some 15) rfl rfl Try.func34 (by kernel_rfl) rfl #[.int .i64 a0, .int .i64 a1] rfl (by (try simp only [List.map_toArray, List.map_cons, List.map_nil]); first | done | rfl | (simp only [List.length_drop, List.length_take]; rfl)) ?_; (with_reducible refine (parquetref04_Mod.calls a0 a1 t109 _ A3.out).mono ?_); rintro e w' ⟨rfl, ⟨nd, rfl⟩⟩; refine ⟨_, rfl, ?_⟩))
  go_loopg [5, 6, 7, 8] k (fun kq v5 v6 v7 v8 w' => ∃ (x5_1 : Int) (x6_1 : Int) (x7_1 : Int) (x8_1 : Int), v5 = .int .i64 x5_1 ∧ v6 = .int .i64 x6_1 ∧ v7 = .int .i64 x7_1 ∧ v8 = .int .i64 x8_1 ∧ Aside0 (parquetref04_turned.l0 kq a1 x5_1 x6_1 x7_1 x8_1 = some r) ∧ Aside0 (kq ≤ k) ∧ Drawn0 w w')
  case atStart => exact ⟨(a1), (t109), (0), (1), (by first | rfl | (simp; done) | (simp [*]; done)), (by first | rfl | (simp; done) | (simp [*]; done)), (by first | rfl | (simp; done) | (simp [*]; done)), (by first | rfl | (simp; done) | (simp [*]; done)), H', ⟨Nat.le_refl _⟩, by repeat (first | exact Drawn0.refl _ | apply Drawn0.step)⟩
  case round =>
    clear H'
    try clear p2
    try clear c3
    obtain ⟨x5_1, x6_1, x7_1, x8_1, rfl, rfl, rfl, rfl, HA, HK1, ⟨m1, rfl⟩⟩ := hrel
    cases gk with
    | zero => exact absurd HA.out (by simp [parquetref04_turned.l0])
    | succ k1 =>
      have H := HA.out
      clear HA
      simp only [parquetref04_turned.l0] at H
      by_cases c4 : x6_1 > 0
      · rw [if_pos c4] at H
        have c4b0 : decide (0 < x6_1) = true := decide_eq_true c4
        clear c4
        by_cases c5 : x6_1 = 0
        · rw [if_pos c5] at H
          exact absurd H (by simp)
        · rw [if_neg c5] at H
          have c5b0 : (x6_1 == 0) = false := beq_eq_false_iff_ne.mpr c5
          have c5b1 : (x6_1 != 0) = true := bne_iff_ne.mpr c5
          have H' := Aside0.mk H
          clear H
          go_wp2
          go_roundg k1
          case measure => have := HK1.out; omega
          case rel => exact ⟨(x6_1), (wrap64 (x5_1 - (wrap64 ((wrap64 (Int.tdiv x5_1 x6_1)) * x6_1)))), (x8_1), (wrap64 (x7_1 - (wrap64 ((wrap64 (Int.tdiv x5_1 x6_1)) * x8_1)))), (by first | rfl | (simp; done) | (simp [*]; done)), (by first | rfl | (simp; done) | (simp [*]; done)), (by first | rfl | (simp; done) | (simp [*]; done)), (by first | rfl | (simp; done) | (simp [*]; done)), H', ⟨by have := HK1.out; omega⟩, by repeat (first | exact Drawn0.refl _ | apply Drawn0.step)⟩
      · rw [if_neg c4] at H
        have c4b0 : decide (0 < x6_1) = false := decide_eq_false c4
        clear c4
        replace H := Option.bind_eq_some_iff.mp H
        obtain ⟨t110, A60, H⟩ := H
        replace H : (some t110) = some r := H
        have A6 := Aside0.mk A60
        clear A60
        obtain rfl := Option.some.inj H
        go_wp2_with (first | ((with_reducible refine gate_callee (f := 34) rfl ?_); refine goesL_ (some 37) rfl rfl Try.func34 (by kernel_rfl) rfl #[.int .i64 x7_1, .int .i64 a1] rfl (by (try simp only [List.map_toArray, List.map_cons, List.map_nil]); first | done | rfl | (simp only [List.length_drop, List.length_take]; rfl)) ?_; (with_reducible refine (parquetref04_Mod.calls x7_1 a1 t110 _ A6.out).mono ?_); rintro e w' ⟨rfl, ⟨nd, rfl⟩⟩; refine ⟨_, rfl, ?_⟩))
        go_ret
        exact ⟨by first | rfl | (simp; done) | (simp [*]; done), by repeat (first | exact Drawn0.refl _ | apply Drawn0.step)⟩

/-! ### parquetref04_Crt: function 30 -/
def parquetref04_Crt.j0 : Nat → Int → Int → Int → Int → Bool → Option (Int × Int × Int)
  | 0, _, _, _, _, _ => none
  | k + 1, x0, x1, x2, x3, x28 => if x28 = true then (some (0, 0, 2)) else ((parquetref04_Common.f k x1 x3).bind fun t111 => ((parquetref04_Mod.f x0 x1).bind fun t112 => ((parquetref04_Mod.f x2 t111).bind fun t113 => ((parquetref04_Mod.f t112 t111).bind fun t114 => ((parquetref04_Mod.f (wrap64 (t113 - t114)) t111).bind fun t115 => (if t115 = 0 then (if t111 = 0 then (none) else (if (wrap64 (Int.tdiv x3 t111)) = 0 then (none) else (if x1 > (wrap64 (Int.tdiv (4611686018427387904 : Int) (wrap64 (Int.tdiv x3 t111)))) then (some (0, 0, 3)) else ((parquetref04_Mod.f x2 x3).bind fun t116 => ((parquetref04_Mod.f t112 x3).bind fun t117 => ((parquetref04_Mod.f (wrap64 (t116 - t117)) x3).bind fun t118 => ((parquetref04_Mod.f (wrap64 (Int.tdiv t118 t111)) (wrap64 (Int.tdiv x3 t111))).bind fun t119 => ((parquetref04_turned.f k (wrap64 (Int.tdiv x1 t111)) (wrap64 (Int.tdiv x3 t111))).bind fun t120 => ((parquetref04_Times.f t119 t120 (wrap64 (Int.tdiv x3 t111))).bind fun t121 => ((parquetref04_Mod.f (wrap64 (t112 + (wrap64 (x1 * t121)))) (wrap64 (x1 * (wrap64 (Int.tdiv x3 t111))))).bind fun t122 => (some (t122, wrap64 (x1 * (wrap64 (Int.tdiv x3 t111))), 0)))))))))))) else (some (0, 0, 41))))))))
def parquetref04_Crt.f (k : Nat) (a0 : Int) (a1 : Int) (a2 : Int) (a3 : Int) : Option (Int × Int × Int) := if a1 < 1 then (parquetref04_Crt.j0 k a0 a1 a2 a3 true) else (if a1 > 4611686018427387904 then (parquetref04_Crt.j0 k a0 a1 a2 a3 true) else (if a3 < 1 then (parquetref04_Crt.j0 k a0 a1 a2 a3 true) else (parquetref04_Crt.j0 k a0 a1 a2 a3 (decide (a3 > 4611686018427387904)))))
theorem parquetref04_Crt.mono_l : ∀ k, (∀ y0 y1 y2 y3 y4, LeO (parquetref04_Crt.j0 k y0 y1 y2 y3 y4) (parquetref04_Crt.j0 (k + 1) y0 y1 y2 y3 y4))
  | 0 => fun _ _ _ _ _ r h => by simp [parquetref04_Crt.j0] at h
  | k + 1 => by
    have ih0 := parquetref04_Crt.mono_l k
    · intro y0 y1 y2 y3 y4
      unfold parquetref04_Crt.j0
      repeat' first
      | (with_reducible exact ih0 _ _ _ _ _)
      | (with_reducible exact parquetref04_Common.mono _ _ _)
      | (with_reducible exact parquetref04_turned.mono _ _ _)
      | (with_reducible exact LeO.refl _)
      | (with_reducible exact LeO.none _)
      | (with_reducible refine LeO.ite ?_ ?_)
      | (with_reducible refine LeO.bind ?_ (fun _ => ?_))
      | exact ih0 _ _ _ _ _
      | exact parquetref04_Common.mono _ _ _
      | exact parquetref04_turned.mono _ _ _
      | exact LeO.none _
      | refine LeO.ite ?_ ?_
      | refine LeO.bind ?_ (fun _ => ?_)
theorem parquetref04_Crt.mono : ∀ a0 a1 a2 a3 k, LeO (parquetref04_Crt.f k a0 a1 a2 a3) (parquetref04_Crt.f (k + 1) a0 a1 a2 a3) := by
  intro a0 a1 a2 a3 k
  have ih0 := parquetref04_Crt.mono_l k
  unfold parquetref04_Crt.f
  repeat' first
      | (with_reducible exact ih0 _ _ _ _ _)
      | (with_reducible exact parquetref04_Common.mono _ _ _)
      | (with_reducible exact parquetref04_turned.mono _ _ _)
      | (with_reducible exact LeO.refl _)
      | (with_reducible exact LeO.none _)
      | (with_reducible refine LeO.ite ?_ ?_)
      | (with_reducible refine LeO.bind ?_ (fun _ => ?_))
      | exact ih0 _ _ _ _ _
      | exact parquetref04_Common.mono _ _ _
      | exact parquetref04_turned.mono _ _ _
      | exact LeO.none _
      | refine LeO.ite ?_ ?_
      | refine LeO.bind ?_ (fun _ => ?_)
set_option maxHeartbeats 8000000 in
set_option maxRecDepth 100000 in
theorem parquetref04_Crt.calls (k : Nat) (a0 : Int) (a1 : Int) (a2 : Int) (a3 : Int) (r1 : Int) (r2 : Int) (r3 : Int) (w : World) (h : parquetref04_Crt.f k a0 a1 a2 a3 = some (r1, r2, r3)) :
    Calls Try.prog 30 #[.int .i64 a0, .int .i64 a1, .int .i64 a2, .int .i64 a3] w fun e w' => e = .returned (.tuple #[.int .i64 r1, .int .i64 r2, .int .i64 r3]) ∧ Below w.heap.size w w' := by
  have HB := Aside0.mk (Below.refl w.heap.size w)
  have H : (if a1 < 1 then (parquetref04_Crt.j0 k a0 a1 a2 a3 true) else (if a1 > 4611686018427387904 then (parquetref04_Crt.j0 k a0 a1 a2 a3 true) else (if a3 < 1 then (parquetref04_Crt.j0 k a0 a1 a2 a3 true) else (parquetref04_Crt.j0 k a0 a1 a2 a3 (decide (a3 > 4611686018427387904)))))) = some (r1, r2, r3) := h
  clear h
  have HC5 := Aside0.mk H
  clear H
  go_enter Try.func30, Try.ntmps30
  go_upto_region 1 with (fail)
  repeat (go_quiet (fail); go_upto_region 1 with (fail))
  go_cut [28] (fun v28 wc => ∃ (kq : Nat) (x28_4 : Bool), v28 = .bool x28_4 ∧ Aside0 (parquetref04_Crt.j0 kq a0 a1 a2 a3 x28_4 = some (r1, r2, r3)) ∧ Aside0 (kq ≤ k) ∧ Aside0 (Below w.heap.size w wc))
  case first =>
    have H := HC5.out
    clear HC5
    by_cases c6 : a1 < 1
    · rw [if_pos c6] at H
      have c6b0 : decide (a1 < 1) = true := decide_eq_true c6
      clear c6
      (first | rw [c6b0] | (simp only [i64_w, i32_w]; rw [c6b0]) | skip)
      have H' := Aside0.mk H
      clear H
      go_wp2
      repeat (go_quiet (fail); try go_wp2)
      go_meet
      case rel => exact ⟨_, (true), (by first | rfl | (simp; done) | (simp [*]; done)), H', ⟨by first | omega | exact Nat.le_refl _⟩, ⟨by repeat (first | (with_reducible first | exact HB.out | apply below_alloc | apply pw_below_drewN | apply below_drew1) | exact HB.out)⟩⟩
    · rw [if_neg c6] at H
      have c6b0 : decide (a1 < 1) = false := decide_eq_false c6
      clear c6
      (first | rw [c6b0] | (simp only [i64_w, i32_w]; rw [c6b0]) | skip)
      by_cases c7 : a1 > 4611686018427387904
      · rw [if_pos c7] at H
        have c7b0 : decide (4611686018427387904 < a1) = true := decide_eq_true c7
        clear c7
        have H' := Aside0.mk H
        clear H
        go_wp2
        repeat (go_quiet (fail); try go_wp2)
        go_meet
        case rel => exact ⟨_, (true), (by first | rfl | (simp; done) | (simp [*]; done)), H', ⟨by first | omega | exact Nat.le_refl _⟩, ⟨by repeat (first | (with_reducible first | exact HB.out | apply below_alloc | apply pw_below_drewN | apply below_drew1) | exact HB.out)⟩⟩
      · rw [if_neg c7] at H
        have c7b0 : decide (4611686018427387904 < a1) = false := decide_eq_false c7
        clear c7
        by_cases c8 : a3 < 1
        · rw [if_pos c8] at H
          have c8b0 : decide (a3 < 1) = true := decide_eq_true c8
          clear c8
          have H' := Aside0.mk H
          clear H
          go_wp2
          repeat (go_quiet (fail); try go_wp2)
          go_meet
          case rel => exact ⟨_, (true), (by first | rfl | (simp; done) | (simp [*]; done)), H', ⟨by first | omega | exact Nat.le_refl _⟩, ⟨by repeat (first | (with_reducible first | exact HB.out | apply below_alloc | apply pw_below_drewN | apply below_drew1) | exact HB.out)⟩⟩
        · rw [if_neg c8] at H
          have c8b0 : decide (a3 < 1) = false := decide_eq_false c8
          clear c8
          have H' := Aside0.mk H
          clear H
          go_wp2
          repeat (go_quiet (fail); try go_wp2)
          go_meet
          case rel => exact ⟨_, (decide (a3 > 4611686018427387904)), (by first | rfl | (simp; done) | (simp [*]; done)), H', ⟨by first | omega | exact Nat.le_refl _⟩, ⟨by repeat (first | (with_reducible first | exact HB.out | apply below_alloc | apply pw_below_drewN | apply below_drew1) | exact HB.out)⟩⟩
  case rest =>
    clear HC5
    try clear p2
    try clear c3
    try clear c6
    try clear c6b0
    try clear c7
    try clear c7b0
    try clear c8
    try clear c8b0
    obtain ⟨kq, x28_4, rfl, HA, HJ4, HB⟩ := hcut
    cases kq with
    | zero => exact absurd HA.out (by simp [parquetref04_Crt.j0])
    | succ kj4 =>
      have H := HA.out
      clear HA
      simp only [parquetref04_Crt.j0] at H
      by_cases c9 : x28_4 = true
      · subst c9
        have H1 : (some (0, 0, 2)) = some (r1, r2, r3) := by rw [if_pos rfl] at H; exact H
        clear H
        have H := H1
        clear H1
        simp only [Option.some.injEq, Prod.mk.injEq] at H
        obtain ⟨rfl, rfl, rfl⟩ := H
        go_wp2
        repeat (go_quiet (fail); try go_wp2)
        go_ret3
        exact ⟨by first | rfl | (simp [errW_none, errW_some] <;> rfl) | (simp [*, errW_none, errW_some] <;> rfl), by repeat (first | (with_reducible first | exact HB.out | apply below_alloc | apply pw_below_drewN | apply below_drew1) | exact HB.out)⟩
      · replace c9 := Bool.eq_false_iff.mpr c9
        subst c9
        have H1 : ((parquetref04_Common.f kj4 a1 a3).bind fun t111 => ((parquetref04_Mod.f a0 a1).bind fun t112 => ((parquetref04_Mod.f a2 t111).bind fun t113 => ((parquetref04_Mod.f t112 t111).bind fun t114 => ((parquetref04_Mod.f (wrap64 (t113 - t114)) t111).bind fun t115 => (if t115 = 0 then (if t111 = 0 then (none) else (if (wrap64 (Int.tdiv a3 t111)) = 0 then (none) else (if a1 > (wrap64 (Int.tdiv (4611686018427387904 : Int) (wrap64 (Int.tdiv a3 t111)))) then (some (0, 0, 3)) else ((parquetref04_Mod.f a2 a3).bind fun t116 => ((parquetref04_Mod.f t112 a3).bind fun t117 => ((parquetref04_Mod.f (wrap64 (t116 - t117)) a3).bind fun t118 => ((parquetref04_Mod.f (wrap64 (Int.tdiv t118 t111)) (wrap64 (Int.tdiv a3 t111))).bind fun t119 => ((parquetref04_turned.f kj4 (wrap64 (Int.tdiv a1 t111)) (wrap64 (Int.tdiv a3 t111))).bind fun t120 => ((parquetref04_Times.f t119 t120 (wrap64 (Int.tdiv a3 t111))).bind fun t121 => ((parquetref04_Mod.f (wrap64 (t112 + (wrap64 (a1 * t121)))) (wrap64 (a1 * (wrap64 (Int.tdiv a3 t111))))).bind fun t122 => (some (t122, wrap64 (a1 * (wrap64 (Int.tdiv a3 t111))), 0)))))))))))) else (some (0, 0, 41)))))))) = some (r1, r2, r3) := by rw [if_neg (show ¬ (false = true) by decide)] at H; exact H
        clear H
        have H := H1
        clear H1
        replace H := Option.bind_eq_some_iff.mp H
        obtain ⟨t111, A100, H⟩ := H
        replace H : ((parquetref04_Mod.f a0 a1).bind fun t112 => ((parquetref04_Mod.f a2 t111).bind fun t113 => ((parquetref04_Mod.f t112 t111).bind fun t114 => ((parquetref04_Mod.f (wrap64 (t113 - t114)) t111).bind fun t115 => (if t115 = 0 then (if t111 = 0 then (none) else (if (wrap64 (Int.tdiv a3 t111)) = 0 then (none) else (if a1 > (wrap64 (Int.tdiv (4611686018427387904 : Int) (wrap64 (Int.tdiv a3 t111)))) then (some (0, 0, 3)) else ((parquetref04_Mod.f a2 a3).bind fun t116 => ((parquetref04_Mod.f t112 a3).bind fun t117 => ((parquetref04_Mod.f (wrap64 (t116 - t117)) a3).bind fun t118 => ((parquetref04_Mod.f (wrap64 (Int.tdiv t118 t111)) (wrap64 (Int.tdiv a3 t111))).bind fun t119 => ((parquetref04_turned.f kj4 (wrap64 (Int.tdiv a1 t111)) (wrap64 (Int.tdiv a3 t111))).bind fun t120 => ((parquetref04_Times.f t119 t120 (wrap64 (Int.tdiv a3 t111))).bind fun t121 => ((parquetref04_Mod.f (wrap64 (t112 + (wrap64 (a1 * t121)))) (wrap64 (a1 * (wrap64 (Int.tdiv a3 t111))))).bind fun t122 => (some (t122, wrap64 (a1 * (wrap64 (Int.tdiv a3 t111))), 0)))))))))))) else (some (0, 0, 41))))))) = some (r1, r2, r3) := H
        have A10 := Aside0.mk A100
        clear A100
        replace H := Option.bind_eq_some_iff.mp H
        obtain ⟨t112, A110, H⟩ := H
        replace H : ((parquetref04_Mod.f a2 t111).bind fun t113 => ((parquetref04_Mod.f t112 t111).bind fun t114 => ((parquetref04_Mod.f (wrap64 (t113 - t114)) t111).bind fun t115 => (if t115 = 0 then (if t111 = 0 then (none) else (if (wrap64 (Int.tdiv a3 t111)) = 0 then (none) else (if a1 > (wrap64 (Int.tdiv (4611686018427387904 : Int) (wrap64 (Int.tdiv a3 t111)))) then (some (0, 0, 3)) else ((parquetref04_Mod.f a2 a3).bind fun t116 => ((parquetref04_Mod.f t112 a3).bind fun t117 => ((parquetref04_Mod.f (wrap64 (t116 - t117)) a3).bind fun t118 => ((parquetref04_Mod.f (wrap64 (Int.tdiv t118 t111)) (wrap64 (Int.tdiv a3 t111))).bind fun t119 => ((parquetref04_turned.f kj4 (wrap64 (Int.tdiv a1 t111)) (wrap64 (Int.tdiv a3 t111))).bind fun t120 => ((parquetref04_Times.f t119 t120 (wrap64 (Int.tdiv a3 t111))).bind fun t121 => ((parquetref04_Mod.f (wrap64 (t112 + (wrap64 (a1 * t121)))) (wrap64 (a1 * (wrap64 (Int.tdiv a3 t111))))).bind fun t122 => (some (t122, wrap64 (a1 * (wrap64 (Int.tdiv a3 t111))), 0)))))))))))) else (some (0, 0, 41)))))) = some (r1, r2, r3) := H
        have A11 := Aside0.mk A110
        clear A110
        replace H := Option.bind_eq_some_iff.mp H
        obtain ⟨t113, A120, H⟩ := H
        replace H : ((parquetref04_Mod.f t112 t111).bind fun t114 => ((parquetref04_Mod.f (wrap64 (t113 - t114)) t111).bind fun t115 => (if t115 = 0 then (if t111 = 0 then (none) else (if (wrap64 (Int.tdiv a3 t111)) = 0 then (none) else (if a1 > (wrap64 (Int.tdiv (4611686018427387904 : Int) (wrap64 (Int.tdiv a3 t111)))) then (some (0, 0, 3)) else ((parquetref04_Mod.f a2 a3).bind fun t116 => ((parquetref04_Mod.f t112 a3).bind fun t117 => ((parquetref04_Mod.f (wrap64 (t116 - t117)) a3).bind fun t118 => ((parquetref04_Mod.f (wrap64 (Int.tdiv t118 t111)) (wrap64 (Int.tdiv a3 t111))).bind fun t119 => ((parquetref04_turned.f kj4 (wrap64 (Int.tdiv a1 t111)) (wrap64 (Int.tdiv a3 t111))).bind fun t120 => ((parquetref04_Times.f t119 t120 (wrap64 (Int.tdiv a3 t111))).bind fun t121 => ((parquetref04_Mod.f (wrap64 (t112 + (wrap64 (a1 * t121)))) (wrap64 (a1 * (wrap64 (Int.tdiv a3 t111))))).bind fun t122 => (some (t122, wrap64 (a1 * (wrap64 (Int.tdiv a3 t111))), 0)))))))))))) else (some (0, 0, 41))))) = some (r1, r2, r3) := H
        have A12 := Aside0.mk A120
        clear A120
        replace H := Option.bind_eq_some_iff.mp H
        obtain ⟨t114, A130, H⟩ := H
        replace H : ((parquetref04_Mod.f (wrap64 (t113 - t114)) t111).bind fun t115 => (if t115 = 0 then (if t111 = 0 then (none) else (if (wrap64 (Int.tdiv a3 t111)) = 0 then (none) else (if a1 > (wrap64 (Int.tdiv (4611686018427387904 : Int) (wrap64 (Int.tdiv a3 t111)))) then (some (0, 0, 3)) else ((parquetref04_Mod.f a2 a3).bind fun t116 => ((parquetref04_Mod.f t112 a3).bind fun t117 => ((parquetref04_Mod.f (wrap64 (t116 - t117)) a3).bind fun t118 => ((parquetref04_Mod.f (wrap64 (Int.tdiv t118 t111)) (wrap64 (Int.tdiv a3 t111))).bind fun t119 => ((parquetref04_turned.f kj4 (wrap64 (Int.tdiv a1 t111)) (wrap64 (Int.tdiv a3 t111))).bind fun t120 => ((parquetref04_Times.f t119 t120 (wrap64 (Int.tdiv a3 t111))).bind fun t121 => ((parquetref04_Mod.f (wrap64 (t112 + (wrap64 (a1 * t121)))) (wrap64 (a1 * (wrap64 (Int.tdiv a3 t111))))).bind fun t122 => (some (t122, wrap64 (a1 * (wrap64 (Int.tdiv a3 t111))), 0)))))))))))) else (some (0, 0, 41)))) = some (r1, r2, r3) := H
        have A13 := Aside0.mk A130
        clear A130
        replace H := Option.bind_eq_some_iff.mp H
        obtain ⟨t115, A140, H⟩ := H
        replace H : (if t115 = 0 then (if t111 = 0 then (none) else (if (wrap64 (Int.tdiv a3 t111)) = 0 then (none) else (if a1 > (wrap64 (Int.tdiv (4611686018427387904 : Int) (wrap64 (Int.tdiv a3 t111)))) then (some (0, 0, 3)) else ((parquetref04_Mod.f a2 a3).bind fun t116 => ((parquetref04_Mod.f t112 a3).bind fun t117 => ((parquetref04_Mod.f (wrap64 (t116 - t117)) a3).bind fun t118 => ((parquetref04_Mod.f (wrap64 (Int.tdiv t118 t111)) (wrap64 (Int.tdiv a3 t111))).bind fun t119 => ((parquetref04_turned.f kj4 (wrap64 (Int.tdiv a1 t111)) (wrap64 (Int.tdiv a3 t111))).bind fun t120 => ((parquetref04_Times.f t119 t120 (wrap64 (Int.tdiv a3 t111))).bind fun t121 => ((parquetref04_Mod.f (wrap64 (t112 + (wrap64 (a1 * t121)))) (wrap64 (a1 * (wrap64 (Int.tdiv a3 t111))))).bind fun t122 => (some (t122, wrap64 (a1 * (wrap64 (Int.tdiv a3 t111))), 0)))))))))))) else (some (0, 0, 41))) = some (r1, r2, r3) := H
        have A14 := Aside0.mk A140
        clear A140
        by_cases c15 : t115 = 0
        · rw [if_pos c15] at H
          have c15b0 : (t115 == 0) = true := beq_iff_eq.mpr c15
          have c15b1 : (t115 != 0) = false := bne_eq_false_iff_eq.mpr c15
          clear c15
          by_cases c16 : t111 = 0
          · rw [if_pos c16] at H
            exact absurd H (by simp)
          · rw [if_neg c16] at H
            have c16b0 : (t111 == 0) = false := beq_eq_false_iff_ne.mpr c16
            have c16b1 : (t111 != 0) = true := bne_iff_ne.mpr c16
            by_cases c17 : (wrap64 (Int.tdiv a3 t111)) = 0
            · rw [if_pos c17] at H
              exact absurd H (by simp)
            · rw [if_neg c17] at H
              have c17b0 : ((wrap64 (Int.tdiv a3 t111)) == 0) = false := beq_eq_false_iff_ne.mpr c17
              have c17b1 : ((wrap64 (Int.tdiv a3 t111)) != 0) = true := bne_iff_ne.mpr c17
              by_cases c18 : a1 > (wrap64 (Int.tdiv (4611686018427387904 : Int) (wrap64 (Int.tdiv a3 t111))))
              · rw [if_pos c18] at H
                have c18b0 : decide ((wrap64 (Int.tdiv (4611686018427387904 : Int) (wrap64 (Int.tdiv a3 t111)))) < a1) = true := decide_eq_true c18
                clear c18
                simp only [Option.some.injEq, Prod.mk.injEq] at H
                obtain ⟨rfl, rfl, rfl⟩ := H
                go_wp2_with (first | (go_at_call 47; (with_reducible refine (parquetref04_Common.calls kj4 a1 a3 t111 _ A10.out).mono ?_); rintro e w19 ⟨rfl, hb⟩; have n0_ := Aside0.mk (below_step (by repeat (first | (with_reducible first | exact HB.out | apply below_alloc | apply pw_below_drewN | apply below_drew1) | exact HB.out)) hb); clear HB; have HB := n0_; clear n0_; (try clear hb); (try clear hb2); (try clear hk); (try clear hi)) | (go_at_call 34; (with_reducible refine (parquetref04_Mod.calls a0 a1 t112 _ A11.out).mono ?_); rintro e w' ⟨rfl, ⟨nd, rfl⟩⟩; (try first | exact ⟨rfl, _, World.drewN_drewN _ _ _⟩ | exact ⟨rfl, _, Eq.trans (World.drewN_drewN _ _ _) (congrArg (World.drewN _) (Nat.add_assoc _ _ _))⟩)) | (go_at_call 34; (with_reducible refine (parquetref04_Mod.calls a2 t111 t113 _ A12.out).mono ?_); rintro e w' ⟨rfl, ⟨nd, rfl⟩⟩; (try first | exact ⟨rfl, _, World.drewN_drewN _ _ _⟩ | exact ⟨rfl, _, Eq.trans (World.drewN_drewN _ _ _) (congrArg (World.drewN _) (Nat.add_assoc _ _ _))⟩)) | (go_at_call 34; (with_reducible refine (parquetref04_Mod.calls t112 t111 t114 _ A13.out).mono ?_); rintro e w' ⟨rfl, ⟨nd, rfl⟩⟩; (try first | exact ⟨rfl, _, World.drewN_drewN _ _ _⟩ | exact ⟨rfl, _, Eq.trans (World.drewN_drewN _ _ _) (congrArg (World.drewN _) (Nat.add_assoc _ _ _))⟩)) | (go_at_call 34; (with_reducible refine (parquetref04_Mod.calls (wrap64 (t113 - t114)) t111 t115 _ A14.out).mono ?_); rintro e w' ⟨rfl, ⟨nd, rfl⟩⟩; (try first | exact ⟨rfl, _, World.drewN_drewN _ _ _⟩ | exact ⟨rfl, _, Eq.trans (World.drewN_drewN _ _ _) (congrArg (World.drewN _) (Nat.add_assoc _ _ _))⟩)))
                repeat (go_quiet (first | (go_at_call 47; (with_reducible refine (parquetref04_Common.calls kj4 a1 a3 t111 _ A10.out).mono ?_); rintro e w19 ⟨rfl, hb⟩; have n0_ := Aside0.mk (below_step (by repeat (first | (with_reducible first | exact HB.out | apply below_alloc | apply pw_below_drewN | apply below_drew1) | exact HB.out)) hb); clear HB; have HB := n0_; clear n0_; (try clear hb); (try clear hb2); (try clear hk); (try clear hi)) | (go_at_call 34; (with_reducible refine (parquetref04_Mod.calls a0 a1 t112 _ A11.out).mono ?_); rintro e w' ⟨rfl, ⟨nd, rfl⟩⟩; (try first | exact ⟨rfl, _, World.drewN_drewN _ _ _⟩ | exact ⟨rfl, _, Eq.trans (World.drewN_drewN _ _ _) (congrArg (World.drewN _) (Nat.add_assoc _ _ _))⟩)) | (go_at_call 34; (with_reducible refine (parquetref04_Mod.calls a2 t111 t113 _ A12.out).mono ?_); rintro e w' ⟨rfl, ⟨nd, rfl⟩⟩; (try first | exact ⟨rfl, _, World.drewN_drewN _ _ _⟩ | exact ⟨rfl, _, Eq.trans (World.drewN_drewN _ _ _) (congrArg (World.drewN _) (Nat.add_assoc _ _ _))⟩)) | (go_at_call 34; (with_reducible refine (parquetref04_Mod.calls t112 t111 t114 _ A13.out).mono ?_); rintro e w' ⟨rfl, ⟨nd, rfl⟩⟩; (try first | exact ⟨rfl, _, World.drewN_drewN _ _ _⟩ | exact ⟨rfl, _, Eq.trans (World.drewN_drewN _ _ _) (congrArg (World.drewN _) (Nat.add_assoc _ _ _))⟩)) | (go_at_call 34; (with_reducible refine (parquetref04_Mod.calls (wrap64 (t113 - t114)) t111 t115 _ A14.out).mono ?_); rintro e w' ⟨rfl, ⟨nd, rfl⟩⟩; (try first | exact ⟨rfl, _, World.drewN_drewN _ _ _⟩ | exact ⟨rfl, _, Eq.trans (World.drewN_drewN _ _ _) (congrArg (World.drewN _) (Nat.add_assoc _ _ _))⟩))); try go_wp2_with (first | (go_at_call 47; (with_reducible refine (parquetref04_Common.calls kj4 a1 a3 t111 _ A10.out).mono ?_); rintro e w19 ⟨rfl, hb⟩; have n0_ := Aside0.mk (below_step (by repeat (first | (with_reducible first | exact HB.out | apply below_alloc | apply pw_below_drewN | apply below_drew1) | exact HB.out)) hb); clear HB; have HB := n0_; clear n0_; (try clear hb); (try clear hb2); (try clear hk); (try clear hi)) | (go_at_call 34; (with_reducible refine (parquetref04_Mod.calls a0 a1 t112 _ A11.out).mono ?_); rintro e w' ⟨rfl, ⟨nd, rfl⟩⟩; (try first | exact ⟨rfl, _, World.drewN_drewN _ _ _⟩ | exact ⟨rfl, _, Eq.trans (World.drewN_drewN _ _ _) (congrArg (World.drewN _) (Nat.add_assoc _ _ _))⟩)) | (go_at_call 34; (with_reducible refine (parquetref04_Mod.calls a2 t111 t113 _ A12.out).mono ?_); rintro e w' ⟨rfl, ⟨nd, rfl⟩⟩; (try first | exact ⟨rfl, _, World.drewN_drewN _ _ _⟩ | exact ⟨rfl, _, Eq.trans (World.drewN_drewN _ _ _) (congrArg (World.drewN _) (Nat.add_assoc _ _ _))⟩)) | (go_at_call 34; (with_reducible refine (parquetref04_Mod.calls t112 t111 t114 _ A13.out).mono ?_); rintro e w' ⟨rfl, ⟨nd, rfl⟩⟩; (try first | exact ⟨rfl, _, World.drewN_drewN _ _ _⟩ | exact ⟨rfl, _, Eq.trans (World.drewN_drewN _ _ _) (congrArg (World.drewN _) (Nat.add_assoc _ _ _))⟩)) | (go_at_call 34; (with_reducible refine (parquetref04_Mod.calls (wrap64 (t113 - t114)) t111 t115 _ A14.out).mono ?_); rintro e w' ⟨rfl, ⟨nd, rfl⟩⟩; (try first | exact ⟨rfl, _, World.drewN_drewN _ _ _⟩ | exact ⟨rfl, _, Eq.trans (World.drewN_drewN _ _ _) (congrArg (World.drewN _) (Nat.add_assoc _ _ _))⟩))))
                go_ret3
                exact ⟨by first | rfl | (simp [errW_none, errW_some] <;> rfl) | (simp [*, errW_none, errW_some] <;> rfl), by repeat (first | (with_reducible first | exact HB.out | apply below_alloc | apply pw_below_drewN | apply below_drew1) | exact HB.out)⟩
              · rw [if_neg c18] at H
                have c18b0 : decide ((wrap64 (Int.tdiv (4611686018427387904 : Int) (wrap64 (Int.tdiv a3 t111)))) < a1) = false := decide_eq_false c18
                clear c18
                replace H := Option.bind_eq_some_iff.mp H
                obtain ⟨t116, A200, H⟩ := H
                replace H : ((parquetref04_Mod.f t112 a3).bind fun t117 => ((parquetref04_Mod.f (wrap64 (t116 - t117)) a3).bind fun t118 => ((parquetref04_Mod.f (wrap64 (Int.tdiv t118 t111)) (wrap64 (Int.tdiv a3 t111))).bind fun t119 => ((parquetref04_turned.f kj4 (wrap64 (Int.tdiv a1 t111)) (wrap64 (Int.tdiv a3 t111))).bind fun t120 => ((parquetref04_Times.f t119 t120 (wrap64 (Int.tdiv a3 t111))).bind fun t121 => ((parquetref04_Mod.f (wrap64 (t112 + (wrap64 (a1 * t121)))) (wrap64 (a1 * (wrap64 (Int.tdiv a3 t111))))).bind fun t122 => (some (t122, wrap64 (a1 * (wrap64 (Int.tdiv a3 t111))), 0)))))))) = some (r1, r2, r3) := H
                have A20 := Aside0.mk A200
                clear A200
                replace H := Option.bind_eq_some_iff.mp H
                obtain ⟨t117, A210, H⟩ := H
                replace H : ((parquetref04_Mod.f (wrap64 (t116 - t117)) a3).bind fun t118 => ((parquetref04_Mod.f (wrap64 (Int.tdiv t118 t111)) (wrap64 (Int.tdiv a3 t111))).bind fun t119 => ((parquetref04_turned.f kj4 (wrap64 (Int.tdiv a1 t111)) (wrap64 (Int.tdiv a3 t111))).bind fun t120 => ((parquetref04_Times.f t119 t120 (wrap64 (Int.tdiv a3 t111))).bind fun t121 => ((parquetref04_Mod.f (wrap64 (t112 + (wrap64 (a1 * t121)))) (wrap64 (a1 * (wrap64 (Int.tdiv a3 t111))))).bind fun t122 => (some (t122, wrap64 (a1 * (wrap64 (Int.tdiv a3 t111))), 0))))))) = some (r1, r2, r3) := H
                have A21 := Aside0.mk A210
                clear A210
                replace H := Option.bind_eq_some_iff.mp H
                obtain ⟨t118, A220, H⟩ := H
                replace H : ((parquetref04_Mod.f (wrap64 (Int.tdiv t118 t111)) (wrap64 (Int.tdiv a3 t111))).bind fun t119 => ((parquetref04_turned.f kj4 (wrap64 (Int.tdiv a1 t111)) (wrap64 (Int.tdiv a3 t111))).bind fun t120 => ((parquetref04_Times.f t119 t120 (wrap64 (Int.tdiv a3 t111))).bind fun t121 => ((parquetref04_Mod.f (wrap64 (t112 + (wrap64 (a1 * t121)))) (wrap64 (a1 * (wrap64 (Int.tdiv a3 t111))))).bind fun t122 => (some (t122, wrap64 (a1 * (wrap64 (Int.tdiv a3 t111))), 0)))))) = some (r1, r2, r3) := H
                have A22 := Aside0.mk A220
                clear A220
                replace H := Option.bind_eq_some_iff.mp H
                obtain ⟨t119, A230, H⟩ := H
                replace H : ((parquetref04_turned.f kj4 (wrap64 (Int.tdiv a1 t111)) (wrap64 (Int.tdiv a3 t111))).bind fun t120 => ((parquetref04_Times.f t119 t120 (wrap64 (Int.tdiv a3 t111))).bind fun t121 => ((parquetref04_Mod.f (wrap64 (t112 + (wrap64 (a1 * t121)))) (wrap64 (a1 * (wrap64 (Int.tdiv a3 t111))))).bind fun t122 => (some (t122, wrap64 (a1 * (wrap64 (Int.tdiv a3 t111))), 0))))) = some (r1, r2, r3) := H
                have A23 := Aside0.mk A230
                clear A230
                replace H := Option.bind_eq_some_iff.mp H
                obtain ⟨t120, A240, H⟩ := H
                replace H : ((parquetref04_Times.f t119 t120 (wrap64 (Int.tdiv a3 t111))).bind fun t121 => ((parquetref04_Mod.f (wrap64 (t112 + (wrap64 (a1 * t121)))) (wrap64 (a1 * (wrap64 (Int.tdiv a3 t111))))).bind fun t122 => (some (t122, wrap64 (a1 * (wrap64 (Int.tdiv a3 t111))), 0)))) = some (r1, r2, r3) := H
                have A24 := Aside0.mk A240
                clear A240
                replace H := Option.bind_eq_some_iff.mp H
                obtain ⟨t121, A250, H⟩ := H
                replace H : ((parquetref04_Mod.f (wrap64 (t112 + (wrap64 (a1 * t121)))) (wrap64 (a1 * (wrap64 (Int.tdiv a3 t111))))).bind fun t122 => (some (t122, wrap64 (a1 * (wrap64 (Int.tdiv a3 t111))), 0))) = some (r1, r2, r3) := H
                have A25 := Aside0.mk A250
                clear A250
                replace H := Option.bind_eq_some_iff.mp H
                obtain ⟨t122, A260, H⟩ := H
                replace H : (some (t122, wrap64 (a1 * (wrap64 (Int.tdiv a3 t111))), 0)) = some (r1, r2, r3) := H
                have A26 := Aside0.mk A260
                clear A260
                simp only [Option.some.injEq, Prod.mk.injEq] at H
                obtain ⟨rfl, rfl, rfl⟩ := H
                go_wp2_with (first | (go_at_call 47; (with_reducible refine (parquetref04_Common.calls kj4 a1 a3 t111 _ A10.out).mono ?_); rintro e w27 ⟨rfl, hb⟩; have n0_ := Aside0.mk (below_step (by repeat (first | (with_reducible first | exact HB.out | apply below_alloc | apply pw_below_drewN | apply below_drew1) | exact HB.out)) hb); clear HB; have HB := n0_; clear n0_; (try clear hb); (try clear hb2); (try clear hk); (try clear hi)) | (go_at_call 34; (with_reducible refine (parquetref04_Mod.calls a0 a1 t112 _ A11.out).mono ?_); rintro e w' ⟨rfl, ⟨nd, rfl⟩⟩; (try first | exact ⟨rfl, _, World.drewN_drewN _ _ _⟩ | exact ⟨rfl, _, Eq.trans (World.drewN_drewN _ _ _) (congrArg (World.drewN _) (Nat.add_assoc _ _ _))⟩)) | (go_at_call 34; (with_reducible refine (parquetref04_Mod.calls a2 t111 t113 _ A12.out).mono ?_); rintro e w' ⟨rfl, ⟨nd, rfl⟩⟩; (try first | exact ⟨rfl, _, World.drewN_drewN _ _ _⟩ | exact ⟨rfl, _, Eq.trans (World.drewN_drewN _ _ _) (congrArg (World.drewN _) (Nat.add_assoc _ _ _))⟩)) | (go_at_call 34; (with_reducible refine (parquetref04_Mod.calls t112 t111 t114 _ A13.out).mono ?_); rintro e w' ⟨rfl, ⟨nd, rfl⟩⟩; (try first | exact ⟨rfl, _, World.drewN_drewN _ _ _⟩ | exact ⟨rfl, _, Eq.trans (World.drewN_drewN _ _ _) (congrArg (World.drewN _) (Nat.add_assoc _ _ _))⟩)) | (go_at_call 34; (with_reducible refine (parquetref04_Mod.calls (wrap64 (t113 - t114)) t111 t115 _ A14.out).mono ?_); rintro e w' ⟨rfl, ⟨nd, rfl⟩⟩; (try first | exact ⟨rfl, _, World.drewN_drewN _ _ _⟩ | exact ⟨rfl, _, Eq.trans (World.drewN_drewN _ _ _) (congrArg (World.drewN _) (Nat.add_assoc _ _ _))⟩)) | (go_at_call 34; (with_reducible refine (parquetref04_Mod.calls a2 a3 t116 _ A20.out).mono ?_); rintro e w' ⟨rfl, ⟨nd, rfl⟩⟩; (try first | exact ⟨rfl, _, World.drewN_drewN _ _ _⟩ | exact ⟨rfl, _, Eq.trans (World.drewN_drewN _ _ _) (congrArg (World.drewN _) (Nat.add_assoc _ _ _))⟩)) | (go_at_call 34; (with_reducible refine (parquetref04_Mod.calls t112 a3 t117 _ A21.out).mono ?_); rintro e w' ⟨rfl, ⟨nd, rfl⟩⟩; (try first | exact ⟨rfl, _, World.drewN_drewN _ _ _⟩ | exact ⟨rfl, _, Eq.trans (World.drewN_drewN _ _ _) (congrArg (World.drewN _) (Nat.add_assoc _ _ _))⟩)) | (go_at_call 34; (with_reducible refine (parquetref04_Mod.calls (wrap64 (t116 - t117)) a3 t118 _ A22.out).mono ?_); rintro e w' ⟨rfl, ⟨nd, rfl⟩⟩; (try first | exact ⟨rfl, _, World.drewN_drewN _ _ _⟩ | exact ⟨rfl, _, Eq.trans (World.drewN_drewN _ _ _) (congrArg (World.drewN _) (Nat.add_assoc _ _ _))⟩)) | (go_at_call 34; (with_reducible refine (parquetref04_Mod.calls (wrap64 (Int.tdiv t118 t111)) (wrap64 (Int.tdiv a3 t111)) t119 _ A23.out).mono ?_); rintro e w' ⟨rfl, ⟨nd, rfl⟩⟩; (try first | exact ⟨rfl, _, World.drewN_drewN _ _ _⟩ | exact ⟨rfl, _, Eq.trans (World.drewN_drewN _ _ _) (congrArg (World.drewN _) (Nat.add_assoc _ _ _))⟩)) | (go_at_call 48; (with_reducible refine (parquetref04_turned.calls kj4 (wrap64 (Int.tdiv a1 t111)) (wrap64 (Int.tdiv a3 t111)) t120 _ A24.out).mono ?_); rintro e w' ⟨rfl, ⟨nd, rfl⟩⟩; (try first | exact ⟨rfl, _, World.drewN_drewN _ _ _⟩ | exact ⟨rfl, _, Eq.trans (World.drewN_drewN _ _ _) (congrArg (World.drewN _) (Nat.add_assoc _ _ _))⟩)) | (go_at_call 40; (with_reducible refine (parquetref04_Times.calls t119 t120 (wrap64 (Int.tdiv a3 t111)) t121 _ A25.out).mono ?_); rintro e w' ⟨rfl, ⟨nd, rfl⟩⟩; (try first | exact ⟨rfl, _, World.drewN_drewN _ _ _⟩ | exact ⟨rfl, _, Eq.trans (World.drewN_drewN _ _ _) (congrArg (World.drewN _) (Nat.add_assoc _ _ _))⟩)) | (go_at_call 34; (with_reducible refine (parquetref04_Mod.calls (wrap64 (t112 + (wrap64 (a1 * t121)))) (wrap64 (a1 * (wrap64 (Int.tdiv a3 t111)))) t122 _ A26.out).mono ?_); rintro e w' ⟨rfl, ⟨nd, rfl⟩⟩; (try first | exact ⟨rfl, _, World.drewN_drewN _ _ _⟩ | exact ⟨rfl, _, Eq.trans (World.drewN_drewN _ _ _) (congrArg (World.drewN _) (Nat.add_assoc _ _ _))⟩)))
                repeat (go_quiet (first | (go_at_call 47; (with_reducible refine (parquetref04_Common.calls kj4 a1 a3 t111 _ A10.out).mono ?_); rintro e w27 ⟨rfl, hb⟩; have n0_ := Aside0.mk (below_step (by repeat (first | (with_reducible first | exact HB.out | apply below_alloc | apply pw_below_drewN | apply below_drew1) | exact HB.out)) hb); clear HB; have HB := n0_; clear n0_; (try clear hb); (try clear hb2); (try clear hk); (try clear hi)) | (go_at_call 34; (with_reducible refine (parquetref04_Mod.calls a0 a1 t112 _ A11.out).mono ?_); rintro e w' ⟨rfl, ⟨nd, rfl⟩⟩; (try first | exact ⟨rfl, _, World.drewN_drewN _ _ _⟩ | exact ⟨rfl, _, Eq.trans (World.drewN_drewN _ _ _) (congrArg (World.drewN _) (Nat.add_assoc _ _ _))⟩)) | (go_at_call 34; (with_reducible refine (parquetref04_Mod.calls a2 t111 t113 _ A12.out).mono ?_); rintro e w' ⟨rfl, ⟨nd, rfl⟩⟩; (try first | exact ⟨rfl, _, World.drewN_drewN _ _ _⟩ | exact ⟨rfl, _, Eq.trans (World.drewN_drewN _ _ _) (congrArg (World.drewN _) (Nat.add_assoc _ _ _))⟩)) | (go_at_call 34; (with_reducible refine (parquetref04_Mod.calls t112 t111 t114 _ A13.out).mono ?_); rintro e w' ⟨rfl, ⟨nd, rfl⟩⟩; (try first | exact ⟨rfl, _, World.drewN_drewN _ _ _⟩ | exact ⟨rfl, _, Eq.trans (World.drewN_drewN _ _ _) (congrArg (World.drewN _) (Nat.add_assoc _ _ _))⟩)) | (go_at_call 34; (with_reducible refine (parquetref04_Mod.calls (wrap64 (t113 - t114)) t111 t115 _ A14.out).mono ?_); rintro e w' ⟨rfl, ⟨nd, rfl⟩⟩; (try first | exact ⟨rfl, _, World.drewN_drewN _ _ _⟩ | exact ⟨rfl, _, Eq.trans (World.drewN_drewN _ _ _) (congrArg (World.drewN _) (Nat.add_assoc _ _ _))⟩)) | (go_at_call 34; (with_reducible refine (parquetref04_Mod.calls a2 a3 t116 _ A20.out).mono ?_); rintro e w' ⟨rfl, ⟨nd, rfl⟩⟩; (try first | exact ⟨rfl, _, World.drewN_drewN _ _ _⟩ | exact ⟨rfl, _, Eq.trans (World.drewN_drewN _ _ _) (congrArg (World.drewN _) (Nat.add_assoc _ _ _))⟩)) | (go_at_call 34; (with_reducible refine (parquetref04_Mod.calls t112 a3 t117 _ A21.out).mono ?_); rintro e w' ⟨rfl, ⟨nd, rfl⟩⟩; (try first | exact ⟨rfl, _, World.drewN_drewN _ _ _⟩ | exact ⟨rfl, _, Eq.trans (World.drewN_drewN _ _ _) (congrArg (World.drewN _) (Nat.add_assoc _ _ _))⟩)) | (go_at_call 34; (with_reducible refine (parquetref04_Mod.calls (wrap64 (t116 - t117)) a3 t118 _ A22.out).mono ?_); rintro e w' ⟨rfl, ⟨nd, rfl⟩⟩; (try first | exact ⟨rfl, _, World.drewN_drewN _ _ _⟩ | exact ⟨rfl, _, Eq.trans (World.drewN_drewN _ _ _) (congrArg (World.drewN _) (Nat.add_assoc _ _ _))⟩)) | (go_at_call 34; (with_reducible refine (parquetref04_Mod.calls (wrap64 (Int.tdiv t118 t111)) (wrap64 (Int.tdiv a3 t111)) t119 _ A23.out).mono ?_); rintro e w' ⟨rfl, ⟨nd, rfl⟩⟩; (try first | exact ⟨rfl, _, World.drewN_drewN _ _ _⟩ | exact ⟨rfl, _, Eq.trans (World.drewN_drewN _ _ _) (congrArg (World.drewN _) (Nat.add_assoc _ _ _))⟩)) | (go_at_call 48; (with_reducible refine (parquetref04_turned.calls kj4 (wrap64 (Int.tdiv a1 t111)) (wrap64 (Int.tdiv a3 t111)) t120 _ A24.out).mono ?_); rintro e w' ⟨rfl, ⟨nd, rfl⟩⟩; (try first | exact ⟨rfl, _, World.drewN_drewN _ _ _⟩ | exact ⟨rfl, _, Eq.trans (World.drewN_drewN _ _ _) (congrArg (World.drewN _) (Nat.add_assoc _ _ _))⟩)) | (go_at_call 40; (with_reducible refine (parquetref04_Times.calls t119 t120 (wrap64 (Int.tdiv a3 t111)) t121 _ A25.out).mono ?_); rintro e w' ⟨rfl, ⟨nd, rfl⟩⟩; (try first | exact ⟨rfl, _, World.drewN_drewN _ _ _⟩ | exact ⟨rfl, _, Eq.trans (World.drewN_drewN _ _ _) (congrArg (World.drewN _) (Nat.add_assoc _ _ _))⟩)) | (go_at_call 34; (with_reducible refine (parquetref04_Mod.calls (wrap64 (t112 + (wrap64 (a1 * t121)))) (wrap64 (a1 * (wrap64 (Int.tdiv a3 t111)))) t122 _ A26.out).mono ?_); rintro e w' ⟨rfl, ⟨nd, rfl⟩⟩; (try first | exact ⟨rfl, _, World.drewN_drewN _ _ _⟩ | exact ⟨rfl, _, Eq.trans (World.drewN_drewN _ _ _) (congrArg (World.drewN _) (Nat.add_assoc _ _ _))⟩))); try go_wp2_with (first | (go_at_call 47; (with_reducible refine (parquetref04_Common.calls kj4 a1 a3 t111 _ A10.out).mono ?_); rintro e w27 ⟨rfl, hb⟩; have n0_ := Aside0.mk (below_step (by repeat (first | (with_reducible first | exact HB.out | apply below_alloc | apply pw_below_drewN | apply below_drew1) | exact HB.out)) hb); clear HB; have HB := n0_; clear n0_; (try clear hb); (try clear hb2); (try clear hk); (try clear hi)) | (go_at_call 34; (with_reducible refine (parquetref04_Mod.calls a0 a1 t112 _ A11.out).mono ?_); rintro e w' ⟨rfl, ⟨nd, rfl⟩⟩; (try first | exact ⟨rfl, _, World.drewN_drewN _ _ _⟩ | exact ⟨rfl, _, Eq.trans (World.drewN_drewN _ _ _) (congrArg (World.drewN _) (Nat.add_assoc _ _ _))⟩)) | (go_at_call 34; (with_reducible refine (parquetref04_Mod.calls a2 t111 t113 _ A12.out).mono ?_); rintro e w' ⟨rfl, ⟨nd, rfl⟩⟩; (try first | exact ⟨rfl, _, World.drewN_drewN _ _ _⟩ | exact ⟨rfl, _, Eq.trans (World.drewN_drewN _ _ _) (congrArg (World.drewN _) (Nat.add_assoc _ _ _))⟩)) | (go_at_call 34; (with_reducible refine (parquetref04_Mod.calls t112 t111 t114 _ A13.out).mono ?_); rintro e w' ⟨rfl, ⟨nd, rfl⟩⟩; (try first | exact ⟨rfl, _, World.drewN_drewN _ _ _⟩ | exact ⟨rfl, _, Eq.trans (World.drewN_drewN _ _ _) (congrArg (World.drewN _) (Nat.add_assoc _ _ _))⟩)) | (go_at_call 34; (with_reducible refine (parquetref04_Mod.calls (wrap64 (t113 - t114)) t111 t115 _ A14.out).mono ?_); rintro e w' ⟨rfl, ⟨nd, rfl⟩⟩; (try first | exact ⟨rfl, _, World.drewN_drewN _ _ _⟩ | exact ⟨rfl, _, Eq.trans (World.drewN_drewN _ _ _) (congrArg (World.drewN _) (Nat.add_assoc _ _ _))⟩)) | (go_at_call 34; (with_reducible refine (parquetref04_Mod.calls a2 a3 t116 _ A20.out).mono ?_); rintro e w' ⟨rfl, ⟨nd, rfl⟩⟩; (try first | exact ⟨rfl, _, World.drewN_drewN _ _ _⟩ | exact ⟨rfl, _, Eq.trans (World.drewN_drewN _ _ _) (congrArg (World.drewN _) (Nat.add_assoc _ _ _))⟩)) | (go_at_call 34; (with_reducible refine (parquetref04_Mod.calls t112 a3 t117 _ A21.out).mono ?_); rintro e w' ⟨rfl, ⟨nd, rfl⟩⟩; (try first | exact ⟨rfl, _, World.drewN_drewN _ _ _⟩ | exact ⟨rfl, _, Eq.trans (World.drewN_drewN _ _ _) (congrArg (World.drewN _) (Nat.add_assoc _ _ _))⟩)) | (go_at_call 34; (with_reducible refine (parquetref04_Mod.calls (wrap64 (t116 - t117)) a3 t118 _ A22.out).mono ?_); rintro e w' ⟨rfl, ⟨nd, rfl⟩⟩; (try first | exact ⟨rfl, _, World.drewN_drewN _ _ _⟩ | exact ⟨rfl, _, Eq.trans (World.drewN_drewN _ _ _) (congrArg (World.drewN _) (Nat.add_assoc _ _ _))⟩)) | (go_at_call 34; (with_reducible refine (parquetref04_Mod.calls (wrap64 (Int.tdiv t118 t111)) (wrap64 (Int.tdiv a3 t111)) t119 _ A23.out).mono ?_); rintro e w' ⟨rfl, ⟨nd, rfl⟩⟩; (try first | exact ⟨rfl, _, World.drewN_drewN _ _ _⟩ | exact ⟨rfl, _, Eq.trans (World.drewN_drewN _ _ _) (congrArg (World.drewN _) (Nat.add_assoc _ _ _))⟩)) | (go_at_call 48; (with_reducible refine (parquetref04_turned.calls kj4 (wrap64 (Int.tdiv a1 t111)) (wrap64 (Int.tdiv a3 t111)) t120 _ A24.out).mono ?_); rintro e w' ⟨rfl, ⟨nd, rfl⟩⟩; (try first | exact ⟨rfl, _, World.drewN_drewN _ _ _⟩ | exact ⟨rfl, _, Eq.trans (World.drewN_drewN _ _ _) (congrArg (World.drewN _) (Nat.add_assoc _ _ _))⟩)) | (go_at_call 40; (with_reducible refine (parquetref04_Times.calls t119 t120 (wrap64 (Int.tdiv a3 t111)) t121 _ A25.out).mono ?_); rintro e w' ⟨rfl, ⟨nd, rfl⟩⟩; (try first | exact ⟨rfl, _, World.drewN_drewN _ _ _⟩ | exact ⟨rfl, _, Eq.trans (World.drewN_drewN _ _ _) (congrArg (World.drewN _) (Nat.add_assoc _ _ _))⟩)) | (go_at_call 34; (with_reducible refine (parquetref04_Mod.calls (wrap64 (t112 + (wrap64 (a1 * t121)))) (wrap64 (a1 * (wrap64 (Int.tdiv a3 t111)))) t122 _ A26.out).mono ?_); rintro e w' ⟨rfl, ⟨nd, rfl⟩⟩; (try first | exact ⟨rfl, _, World.drewN_drewN _ _ _⟩ | exact ⟨rfl, _, Eq.trans (World.drewN_drewN _ _ _) (congrArg (World.drewN _) (Nat.add_assoc _ _ _))⟩))))
                go_ret3
                exact ⟨by first | rfl | (simp [errW_none, errW_some] <;> rfl) | (simp [*, errW_none, errW_some] <;> rfl), by repeat (first | (with_reducible first | exact HB.out | apply below_alloc | apply pw_below_drewN | apply below_drew1) | exact HB.out)⟩
        · rw [if_neg c15] at H
          have c15b0 : (t115 == 0) = false := beq_eq_false_iff_ne.mpr c15
          have c15b1 : (t115 != 0) = true := bne_iff_ne.mpr c15
          simp only [Option.some.injEq, Prod.mk.injEq] at H
          obtain ⟨rfl, rfl, rfl⟩ := H
          go_wp2_with (first | (go_at_call 47; (with_reducible refine (parquetref04_Common.calls kj4 a1 a3 t111 _ A10.out).mono ?_); rintro e w28 ⟨rfl, hb⟩; have n0_ := Aside0.mk (below_step (by repeat (first | (with_reducible first | exact HB.out | apply below_alloc | apply pw_below_drewN | apply below_drew1) | exact HB.out)) hb); clear HB; have HB := n0_; clear n0_; (try clear hb); (try clear hb2); (try clear hk); (try clear hi)) | (go_at_call 34; (with_reducible refine (parquetref04_Mod.calls a0 a1 t112 _ A11.out).mono ?_); rintro e w' ⟨rfl, ⟨nd, rfl⟩⟩; (try first | exact ⟨rfl, _, World.drewN_drewN _ _ _⟩ | exact ⟨rfl, _, Eq.trans (World.drewN_drewN _ _ _) (congrArg (World.drewN _) (Nat.add_assoc _ _ _))⟩)) | (go_at_call 34; (with_reducible refine (parquetref04_Mod.calls a2 t111 t113 _ A12.out).mono ?_); rintro e w' ⟨rfl, ⟨nd, rfl⟩⟩; (try first | exact ⟨rfl, _, World.drewN_drewN _ _ _⟩ | exact ⟨rfl, _, Eq.trans (World.drewN_drewN _ _ _) (congrArg (World.drewN _) (Nat.add_assoc _ _ _))⟩)) | (go_at_call 34; (with_reducible refine (parquetref04_Mod.calls t112 t111 t114 _ A13.out).mono ?_); rintro e w' ⟨rfl, ⟨nd, rfl⟩⟩; (try first | exact ⟨rfl, _, World.drewN_drewN _ _ _⟩ | exact ⟨rfl, _, Eq.trans (World.drewN_drewN _ _ _) (congrArg (World.drewN _) (Nat.add_assoc _ _ _))⟩)) | (go_at_call 34; (with_reducible refine (parquetref04_Mod.calls (wrap64 (t113 - t114)) t111 t115 _ A14.out).mono ?_); rintro e w' ⟨rfl, ⟨nd, rfl⟩⟩; (try first | exact ⟨rfl, _, World.drewN_drewN _ _ _⟩ | exact ⟨rfl, _, Eq.trans (World.drewN_drewN _ _ _) (congrArg (World.drewN _) (Nat.add_assoc _ _ _))⟩)))
          repeat (go_quiet (first | (go_at_call 47; (with_reducible refine (parquetref04_Common.calls kj4 a1 a3 t111 _ A10.out).mono ?_); rintro e w28 ⟨rfl, hb⟩; have n0_ := Aside0.mk (below_step (by repeat (first | (with_reducible first | exact HB.out | apply below_alloc | apply pw_below_drewN | apply below_drew1) | exact HB.out)) hb); clear HB; have HB := n0_; clear n0_; (try clear hb); (try clear hb2); (try clear hk); (try clear hi)) | (go_at_call 34; (with_reducible refine (parquetref04_Mod.calls a0 a1 t112 _ A11.out).mono ?_); rintro e w' ⟨rfl, ⟨nd, rfl⟩⟩; (try first | exact ⟨rfl, _, World.drewN_drewN _ _ _⟩ | exact ⟨rfl, _, Eq.trans (World.drewN_drewN _ _ _) (congrArg (World.drewN _) (Nat.add_assoc _ _ _))⟩)) | (go_at_call 34; (with_reducible refine (parquetref04_Mod.calls a2 t111 t113 _ A12.out).mono ?_); rintro e w' ⟨rfl, ⟨nd, rfl⟩⟩; (try first | exact ⟨rfl, _, World.drewN_drewN _ _ _⟩ | exact ⟨rfl, _, Eq.trans (World.drewN_drewN _ _ _) (congrArg (World.drewN _) (Nat.add_assoc _ _ _))⟩)) | (go_at_call 34; (with_reducible refine (parquetref04_Mod.calls t112 t111 t114 _ A13.out).mono ?_); rintro e w' ⟨rfl, ⟨nd, rfl⟩⟩; (try first | exact ⟨rfl, _, World.drewN_drewN _ _ _⟩ | exact ⟨rfl, _, Eq.trans (World.drewN_drewN _ _ _) (congrArg (World.drewN _) (Nat.add_assoc _ _ _))⟩)) | (go_at_call 34; (with_reducible refine (parquetref04_Mod.calls (wrap64 (t113 - t114)) t111 t115 _ A14.out).mono ?_); rintro e w' ⟨rfl, ⟨nd, rfl⟩⟩; (try first | exact ⟨rfl, _, World.drewN_drewN _ _ _⟩ | exact ⟨rfl, _, Eq.trans (World.drewN_drewN _ _ _) (congrArg (World.drewN _) (Nat.add_assoc _ _ _))⟩))); try go_wp2_with (first | (go_at_call 47; (with_reducible refine (parquetref04_Common.calls kj4 a1 a3 t111 _ A10.out).mono ?_); rintro e w28 ⟨rfl, hb⟩; have n0_ := Aside0.mk (below_step (by repeat (first | (with_reducible first | exact HB.out | apply below_alloc | apply pw_below_drewN | apply below_drew1) | exact HB.out)) hb); clear HB; have HB := n0_; clear n0_; (try clear hb); (try clear hb2); (try clear hk); (try clear hi)) | (go_at_call 34; (with_reducible refine (parquetref04_Mod.calls a0 a1 t112 _ A11.out).mono ?_); rintro e w' ⟨rfl, ⟨nd, rfl⟩⟩; (try first | exact ⟨rfl, _, World.drewN_drewN _ _ _⟩ | exact ⟨rfl, _, Eq.trans (World.drewN_drewN _ _ _) (congrArg (World.drewN _) (Nat.add_assoc _ _ _))⟩)) | (go_at_call 34; (with_reducible refine (parquetref04_Mod.calls a2 t111 t113 _ A12.out).mono ?_); rintro e w' ⟨rfl, ⟨nd, rfl⟩⟩; (try first | exact ⟨rfl, _, World.drewN_drewN _ _ _⟩ | exact ⟨rfl, _, Eq.trans (World.drewN_drewN _ _ _) (congrArg (World.drewN _) (Nat.add_assoc _ _ _))⟩)) | (go_at_call 34; (with_reducible refine (parquetref04_Mod.calls t112 t111 t114 _ A13.out).mono ?_); rintro e w' ⟨rfl, ⟨nd, rfl⟩⟩; (try first | exact ⟨rfl, _, World.drewN_drewN _ _ _⟩ | exact ⟨rfl, _, Eq.trans (World.drewN_drewN _ _ _) (congrArg (World.drewN _) (Nat.add_assoc _ _ _))⟩)) | (go_at_call 34; (with_reducible refine (parquetref04_Mod.calls (wrap64 (t113 - t114)) t111 t115 _ A14.out).mono ?_); rintro e w' ⟨rfl, ⟨nd, rfl⟩⟩; (try first | exact ⟨rfl, _, World.drewN_drewN _ _ _⟩ | exact ⟨rfl, _, Eq.trans (World.drewN_drewN _ _ _) (congrArg (World.drewN _) (Nat.add_assoc _ _ _))⟩))))
          go_ret3
          exact ⟨by first | rfl | (simp [errW_none, errW_some] <;> rfl) | (simp [*, errW_none, errW_some] <;> rfl), by repeat (first | (with_reducible first | exact HB.out | apply below_alloc | apply pw_below_drewN | apply below_drew1) | exact HB.out)⟩

end Go.Proofs.Ytkgejfokdmdikaa.PModularCrts
