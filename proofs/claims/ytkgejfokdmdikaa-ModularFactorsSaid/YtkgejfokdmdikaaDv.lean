/- What modular.Divisors answers: all that divides the number, sorted. -/
import Derived.Test.YtkgejfokdmdikaaDn
namespace Go.Proofs.Ytkgejfokdmdikaa
open Go Go.RowKit Go.Proofs.YtkgejfokdmdikaaW.PrintWords Go.Proofs.YtkgejfokdmdikaaW.PrintLast Go.Proofs.YtkgejfokdmdikaaW.PrintMore

set_option maxRecDepth 100000 in
set_option maxHeartbeats 3200000 in
theorem modular_Divisors.calls (a0 : Int) (r1 : List Int) (r2 : Int) (w : World) (h : modular_Divisors.f a0 = some (r1, r2)) :
    Calls Try.prog 21 #[.int .i64 a0] w fun e w' => ∃ v0_ : Value, e = .returned (.tuple #[v0_, .int .i64 r2]) ∧ Kd.R (Kd.int .i64) 2 w' w.heap.size (fun _ => True) v0_ r1 ∧ Below w.heap.size w w' := by
  unfold modular_Divisors.f at h
  by_cases c2 : a0 < 1
  · rw [if_pos c2] at h
    simp only [Option.some.injEq, Prod.mk.injEq] at h
    obtain ⟨rfl, rfl⟩ := h
    have hF : modular_Factor.f a0 = some ([], 2) := by rw [modular_Factor.f, if_pos c2]
    go_enter Try.func21, Try.ntmps21
    go_wp2_with (go_at_call 19; refine (modular_Factor.calls a0 _ _ w hF).mono ?_; rintro e w1 ⟨v4, rfl, hR, hB⟩; have HB := Aside0.mk hB; clear hR hB)
    go_ret2
    exact ⟨_, rfl, Kd.R_nil _ _ _ _ _, HB.out⟩
  · rw [if_neg c2] at h
    by_cases c3 : 1099511627776 < a0
    · rw [if_pos c3] at h
      simp only [Option.some.injEq, Prod.mk.injEq] at h
      obtain ⟨rfl, rfl⟩ := h
      have hF : modular_Factor.f a0 = some ([], 3) := by rw [modular_Factor.f, if_neg c2, if_pos c3]
      go_enter Try.func21, Try.ntmps21
      go_wp2_with (go_at_call 19; refine (modular_Factor.calls a0 _ _ w hF).mono ?_; rintro e w1 ⟨v4, rfl, hR, hB⟩; have HB := Aside0.mk hB; clear hR hB)
      go_ret2
      exact ⟨_, rfl, Kd.R_nil _ _ _ _ _, HB.out⟩
    · rw [if_neg c3] at h
      simp only [Option.some.injEq, Prod.mk.injEq] at h
      obtain ⟨rfl, rfl⟩ := h
      have hF : modular_Factor.f a0 = some (st (Fc.facs a0.toNat), 0) := by rw [modular_Factor.f, if_neg c2, if_neg c3]
      obtain ⟨n, rfl⟩ : ∃ n : Nat, a0 = n := ⟨a0.toNat, by omega⟩
      simp only [Int.toNat_natCast] at *
      obtain ⟨L, hL⟩ : ∃ L, L = st (Fc.facs n) := ⟨_, rfl⟩
      rw [← hL] at hF
      have HL := Aside0.mk hL
      clear hL
      go_enter Try.func21, Try.ntmps21
      go_wp2_with (go_at_call 19; refine (modular_Factor.calls n _ _ w hF).mono ?_; rintro e w1 ⟨v4, rfl, hR, hB⟩; obtain ⟨A, cp, rfl, lc, hC⟩ := Kd.R_reads hR; have HR := Aside0.mk hR; have HB := Aside0.mk hB; clear hR hB hC)
      clear hF
      go_loopg [6, 22] L.length (fun gk v6 v22 wr => ∃ (i g c : Nat) (out : List Nat) (N m p : Nat), v6 = .slice (some ⟨g, 0, none⟩) (out.length : Nat) c ∧ v22 = .int .i64 (i : Int) ∧ Aside0 (DvOut n (Fc.facs n) i out N m p) ∧ Aside0 (L.length - i ≤ gk) ∧
        Aside0 (Row wr w.heap.size g c out) ∧ Aside0 (Kd.R k38 38 wr w.heap.size (fun _ => True) (.slice A L.length cp) L) ∧ Aside0 (Below w.heap.size w wr))
      case atStart =>
        refine ⟨0, w1.heap.size, 1, [1], 1, n, 2, rfl, rfl, ⟨DvOut.start (by omega)⟩, ⟨by omega⟩, ⟨?_⟩, ⟨Kd.R_alloc HR.out _⟩, ⟨HB.out.alloc HB.out.size _⟩⟩
        exact World.ownsRow_lit w1 #[.int .i64 1] 1 HB.out.size (by decide) rfl
      case round =>
        clear HR HB
        obtain ⟨i, g, c, out, N, m, p, rfl, rfl, D, G, O, R, B⟩ := hrel
        obtain ⟨wo, hwo⟩ : ∃ wo, wo = wr := ⟨_, rfl⟩
        subst hwo
        have LM := R_len R.out
        by_cases hi : i < L.length
        · obtain ⟨ad, hA, x0, x1⟩ := at_T38 (Kd.R_reads' R.out).2.2 (i : Int) (by omega) (by omega)
          cases hA
          have ll : L.length = (Fc.facs n).length := by rw [HL.out, st, List.length_map]
          obtain ⟨q, k, lq, q2, k1, nb, m', p', D'⟩ := D.out.next (by omega)
          have rd : rd_T38 L (i : Int) = (⟨(q : Int), (k : Int)⟩ : S38) := by
            rw [rd_T38, HL.out, st, List.getD_eq_getElem?_getD, List.getElem?_map]
            simp [lq]
          rw [rd] at x0 x1
          simp only [Int.toNat_natCast] at x0 x1
          have olN := good_len D.out.good
          have NN : N ≤ N * q ^ k := Nat.le_mul_of_pos_right _ (Nat.pow_pos (by omega))
          have prN : out.length * (k + 1) ≤ N * q ^ k := by have := good_len D'.good; rwa [Fc.pws_length] at this
          have ol1 : out.length ≤ 1099511627776 := by omega
          have ol0 := D.out.pos
          have pr1 : out.length * (k + 1) ≤ 1099511627776 := by omega
          have kk : k + 1 ≤ out.length * (k + 1) := Nat.le_mul_of_pos_left _ ol0
          have k2 : k ≤ 1099511627776 := by omega
          have oo : out.length ≤ out.length * (k + 1) := Nat.le_mul_of_pos_right _ (by omega)
          have pI : (out.length : Int) * ((k : Int) + 1) = ((out.length * (k + 1) : Nat) : Int) := by rw [Int.natCast_mul]; rfl
          have pI0 : 0 ≤ (out.length : Int) * ((k : Int) + 1) := by rw [pI]; omega
          have pI1 : (out.length : Int) * ((k : Int) + 1) ≤ 1099511627776 := by rw [pI]; omega
          have PI := Aside0.mk pI
          have D2 := Aside0.mk D'
          have LQ := Aside0.mk lq
          have NB := Aside0.mk nb
          clear D' lq nb rd ll olN NN prN kk pI
          obtain ⟨i0, hi0, hz0, hz1, hz2⟩ := info_parts info2
          have h2 : (Try.prog.info? 2).map (·.size) = some 1 := by rw [hi0]; simp [hz1]
          go_wp2_with (first
            | (at_make; refine wpList_make_lc _ rfl (.tmp 27) (.tmp 33) 33 rfl 2 i0 (.int .i64 0) Try.underlying33 hi0 hz0 .i64 .i64 _ _ out.length (out.length * (k + 1)) rfl rfl rfl ?mC oo ?mB ?mM ?_; (case mC => exact PI.out); (case mB => rw [hz2]; omega); (case mM => unfold maxLen; omega); intro w2 h9 g2; obtain ⟨Z, hZ, hZl⟩ := made_row h9 (by rw [size_madeCells, hz1, Nat.mul_one]); have H9 := Aside0.mk hZ; obtain ⟨h8, b2⟩ := made_below g2; have H8 := Aside0.mk h8; have B2 := Aside0.mk b2; clear h9 g2 hZ h8 b2; have O2 := Aside0.mk (O.out.below B2.out))
            | ((with_reducible refine gate_builtin (b := .copy) (xs := #[.tmp 35, .tmp 36]) rfl ?_); refine wpList_copy_splice rfl (.tmp 35) (.tmp 36) 33 33 rfl 2 Try.underlying33 h2 (some ⟨wo.heap.size + 1, 0, none⟩) (some ⟨g, 0, none⟩) out.length (out.length * (k + 1)) out.length c rfl rfl (wo.heap.size + 1) 0 Z 2 H9.out ((Fc.ints out).map (Value.int .i64)) ?cN ?cP ?cF (one_cells out) (wo.heap.size + 1) w2 (Below.refl _ _) (Nat.le_refl _) ?_; (case cN => simp [Fc.ints]); (case cP => exact fun _ => ⟨rfl, _, rfl, O2.out.cells⟩); (case cF => simp [Fc.ints]; omega); intro w3 h3 b3; have B3 := Aside0.mk (B2.out.trans (b3.mono (Nat.le_succ _))); have X8 := Aside0.mk ((b3.block wo.heap.size (Nat.lt_succ_self _)).trans H8.out); have I3 := Aside0.mk (In.start (w := w) O.out R.out B.out B3.out X8.out hZl (by unfold maxLen; omega) oo h3.out); have c81 := I3.out.x01.2; clear h3 b3 B3 X8 H8 H9 O2 B2 hZl))
          clear O R B x0 x1 PI oo pI0 pI1 h2
          go_loopg [9, 40] k (fun gk v9 v40 wx => ∃ (e : Nat), v9 = .slice (some ⟨wo.heap.size + 1, 0, none⟩) ((Fc.pws q out e).length : Nat) (out.length * (k + 1)) ∧ v40 = .int .i64 (e : Int) ∧ Aside0 (e ≤ k ∧ k - e ≤ gk) ∧
            Aside0 (In w (.slice (some ad) L.length cp) L wo.heap.size q k g c (wo.heap.size + 1) (out.length * (k + 1)) (out.map (· * q ^ e)) (Fc.pws q out e) wx))
          case atStart => exact ⟨0, rfl, rfl, ⟨by omega⟩, ⟨by simpa [Fc.pws] using I3.out⟩⟩
          case round =>
            clear I3 c81
            obtain ⟨e, rfl, rfl, E, I⟩ := hrel
            obtain ⟨ek, eg⟩ := E.out
            by_cases he : e < k
            · go_wp2
              go_loopg [44] out.length (fun gk v44 wx => ∃ (j : Nat), v44 = .int .i64 (j : Int) ∧ Aside0 (j ≤ out.length ∧ out.length - j ≤ gk) ∧
                Aside0 (In w (.slice (some ad) L.length cp) L wo.heap.size q k g c (wo.heap.size + 1) (out.length * (k + 1)) (mid q (out.map (· * q ^ e)) j) (Fc.pws q out e) wx))
              case atStart => exact ⟨0, rfl, ⟨by omega⟩, ⟨by rw [mid_zero]; exact I.out⟩⟩
              case round =>
                clear I
                obtain ⟨j, rfl, F, I⟩ := hrel
                obtain ⟨jo, jg⟩ := F.out
                by_cases hj : j < out.length
                · have c80 := I.out.x01.1
                  obtain ⟨y, hy⟩ : ∃ y, y = out[j] * q ^ e := ⟨_, rfl⟩
                  have oj : (mid q (out.map (· * q ^ e)) j)[j]? = some y := by rw [mid_get _ _ _ (by simpa using hj), hy]; simp [hj]
                  obtain ⟨cj, fj⟩ := I.out.o.get oj
                  have yb : y * q ≤ 1099511627776 := by
                    have t1 := good_le D.out.good (List.getElem_mem hj)
                    have t2 : q ^ (e + 1) ≤ q ^ k := Nat.pow_le_pow_right (by omega) he
                    have t3 : y * q = out[j] * q ^ (e + 1) := by rw [hy, Nat.pow_succ, Nat.mul_assoc]
                    have t4 := Nat.mul_le_mul t1 t2
                    have := NB.out
                    omega
                  have yI : (y : Int) * (q : Int) = ((y * q : Nat) : Int) := (Int.natCast_mul _ _).symm
                  have y0 : 0 ≤ (y : Int) * (q : Int) := by rw [yI]; omega
                  have y1 : (y : Int) * (q : Int) ≤ 1099511627776 := by rw [yI]; omega
                  have YI := Aside0.mk yI
                  have HY := Aside0.mk hy
                  clear yI hy yb oj
                  go_wp2
                  go_region
                  all_goals (try go_wp2)
                  go_roundg (out.length - (j + 1))
                  case measure => omega
                  case rel =>
                    refine ⟨j + 1, by simp, ⟨by omega⟩, ⟨?_⟩⟩
                    have sx := (I.out.step j (y * q)).drew
                    have e1 : (mid q (out.map (· * q ^ e)) j).set j (y * q) = mid q (out.map (· * q ^ e)) (j + 1) := by
                      have := mid_step q (out.map (· * q ^ e)) j (by simpa using hj)
                      rw [← this]; simp [HY.out]
                    rw [e1] at sx
                    rw [YI.out]; exact sx
                · have je : j = out.length := by omega
                  subst je
                  have em : mid q (out.map (· * q ^ e)) out.length = out.map (· * q ^ (e + 1)) := by
                    have e1 : out.length = (out.map (· * q ^ e)).length := by simp
                    rw [e1, mid_end, List.map_map]
                    refine List.map_congr_left fun x _ => ?_
                    show x * q ^ e * q = x * q ^ (e + 1)
                    rw [Nat.pow_succ, Nat.mul_assoc]
                  have I5 := Aside0.mk (em ▸ I.out)
                  clear em
                  have hown : Aside0 (Row wr w.heap.size g c (out.map (· * q ^ (e + 1)))) := ⟨I5.out.o⟩
                  go_wp2_with (first
                    | ((with_reducible refine gate_builtin (b := .append) (xs := #[.tmp 56, .tmp 57]) rfl ?_); at_builtin; refine wpList_append_fits _ rfl (.tmp 56) (.tmp 57) 33 rfl w.heap.size 2 i0 1 Try.underlying33 hi0 hz1 (wo.heap.size + 1) (Fc.pws q out e).length (out.length * (k + 1)) _ rfl I.out.a ⟨g, 0, none⟩ out.length c ((Fc.ints (out.map (· * q ^ (e + 1)))).map (Value.int .i64)) rfl ?aN hown.out.cells (one_cells _) ?aB ?_; (case aN => simp [Fc.ints]); (case aB => rw [Fc.pws_length, ← Nat.mul_succ]; exact Nat.mul_le_mul_left _ (by omega)); intro w5 ho hg; have HO := Aside0.mk ho; have HG := Aside0.mk hg; clear ho hg))
                  go_roundg (k - (e + 1))
                  case measure => omega
                  case rel =>
                    refine ⟨e + 1, ?_, by simp, ⟨by omega⟩, ⟨?_⟩⟩
                    · rw [Fc.pws]; simp
                    · rw [Fc.pws]; exact I5.out.more (by simpa using HO.out) HG.out
            · have ee : e = k := by omega
              subst ee
              go_wp2
              go_roundg (L.length - (i + 1))
              case measure => have := G.out; omega
              case rel => exact ⟨i + 1, wo.heap.size + 1, out.length * (e + 1), Fc.pws q out e, N * q ^ e, m', p', rfl, by simp, ⟨D2.out⟩, ⟨Nat.le_refl _⟩, ⟨I.out.a⟩, ⟨I.out.r⟩, ⟨I.out.b⟩⟩
        · have ll : L.length = (Fc.facs n).length := by rw [HL.out, st, List.length_map]
          have oe := D.out.stop (by omega)
          have OE := Aside0.mk oe
          have ol := good_len D.out.good
          have hil : (Fc.ints out).length = out.length := by simp [Fc.ints]
          have nl : N ≤ n := by have := D.out.mul; have := Nat.le_of_dvd (by omega) (⟨m, this.symm⟩ : N ∣ n); exact this
          have hlen : (Fc.ints out).length < 4611686018427387904 := by omega
          have O' : Aside0 (wo.ownsRow w.heap.size 2 1 (.slice (some ⟨g, 0, none⟩) out.length c) (Fc.ints out).length ((Fc.ints out).map (Value.int .i64))) := ⟨by rw [hil]; exact O.out⟩
          clear oe ll hil ol nl
          go_wp2_with (go_at_call 43; refine (sort_own w.heap.size (.slice (some ⟨g, 0, none⟩) out.length c) (Fc.ints out) w wo B.out O'.out hlen).mono ?_; rintro e w2 ⟨rfl, ho, hb⟩; have HO := Aside0.mk ho; have HB2 := Aside0.mk hb; clear ho hb)
          go_ret2
          refine ⟨_, rfl, ?_, HB2.out⟩
          rw [← OE.out]
          exact Kd.R_of_own (by rw [Fc.srt_length]; exact HO.out) (fun _ _ => trivial)
end Go.Proofs.Ytkgejfokdmdikaa
