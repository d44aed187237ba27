/- What modular.Factor answers: the number's primes with their exponents, by trial (Fc.facs); the closure that takes a prime out by a contract of its own. -/
import Derived.Test.YtkgejfokdmdikaaSt
import Derived.Test.YtkgejfokdmdikaaFc
import Derived.OneCell
namespace Go.Proofs.Ytkgejfokdmdikaa
open Go Go.RowKit Go.Proofs.YtkgejfokdmdikaaW.PrintWords Go.Proofs.YtkgejfokdmdikaaW.PrintLast Go.Proofs.YtkgejfokdmdikaaW.PrintMore

/-- a list of primes with exponents, as the program holds it -/
def st (l : List (Nat × Nat)) : List S38 := l.map fun x => (⟨(x.1 : Int), (x.2 : Int)⟩ : S38)

theorem pull_next {p m : Int} (h2 : 2 ≤ p) (m0 : 0 < m) (hm : m % p = 0) : 0 < m / p ∧ m / p < m ∧ Fc.pull p.toNat m.toNat = ((Fc.pull p.toNat (m / p).toNat).1 + 1, (Fc.pull p.toNat (m / p).toNat).2) := by
  obtain ⟨P, rfl⟩ : ∃ P : Nat, p = P := ⟨p.toNat, by omega⟩
  obtain ⟨M, rfl⟩ : ∃ M : Nat, m = M := ⟨m.toNat, by omega⟩
  have hd : M % P = 0 := by rw [← Int.natCast_emod] at hm; omega
  have lt : M / P < M := Nat.div_lt_self (by omega) (by omega)
  have mm : M / P * P = M := Nat.div_mul_cancel (Nat.dvd_of_mod_eq_zero hd)
  have p0 : 0 < M / P := by
    rcases Nat.eq_zero_or_pos (M / P) with e | e
    · rw [e] at mm; omega
    · exact e
  rw [← Int.natCast_ediv]
  refine ⟨by omega, by omega, ?_⟩
  simp only [Int.toNat_natCast]
  exact Fc.pull_step (by omega) (by omega) hd
theorem pull_end {p m : Int} (h2 : 2 ≤ p) (m0 : 0 < m) (hm : ¬ m % p = 0) : Fc.pull p.toNat m.toNat = (0, m.toNat) := by
  obtain ⟨P, rfl⟩ : ∃ P : Nat, p = P := ⟨p.toNat, by omega⟩
  obtain ⟨M, rfl⟩ : ∃ M : Nat, m = M := ⟨m.toNat, by omega⟩
  have hd : ¬ M % P = 0 := fun h => hm (by rw [← Int.natCast_emod]; omega)
  simp only [Int.toNat_natCast]
  exact Fc.pull_stop hd

/-- what the two captured variables hold: what is left of the number, and the list so far -/
def Put (base Bn Bl : Nat) (w0 : World) (n : Int) (xs : List S38) (w : World) : Prop :=
  ∃ v, w.heap[Bn]? = some (.cells #[.int .i64 n] 2 (0, 0)) ∧ w.heap[Bl]? = some (.cells #[v] 30 (0, 0)) ∧ Kd.R k38 38 w base (fun _ => True) v xs ∧ Below base w0 w

theorem own_ne {w : World} {base : Nat} {ok : Nat → Prop} {v : Value} {xs : List S38} (h : Kd.R k38 38 w base ok v xs) {B : Nat} {c : Array Value} {t : Nat} (hb : w.heap[B]? = some (.cells c t (0, 0))) (ht : t ≠ 38) : some B ≠ v.ownBlock := fun e => by
  obtain ⟨_, inner, ho, _⟩ := h
  obtain ⟨cs, hc⟩ := own_typed ho B e.symm
  rw [hb] at hc
  injection hc with hc
  injection hc with _ hc
  exact ht hc

set_option maxRecDepth 100000 in
set_option maxHeartbeats 1600000 in
theorem put_calls (base Bn Bl : Nat) (p n : Int) (v : Value) (xs : List S38) (w0 w : World) (h2 : 2 ≤ p) (hp : p ≤ 1099511627776) (n0 : 0 < n) (hn : n ≤ 1099511627776)
    (hx : xs.length < 8796093022208) (hbn : base ≤ Bn) (hbl : base ≤ Bl) (hne : Bn ≠ Bl)
    (cn : w.heap[Bn]? = some (.cells #[.int .i64 n] 2 (0, 0))) (cl : w.heap[Bl]? = some (.cells #[v] 30 (0, 0)))
    (ho : Kd.R k38 38 w base (fun _ => True) v xs) (HB : Below base w0 w) :
    Calls Try.prog 42 #[.int .i64 p, .pointer (some ⟨Bn, 0, none⟩), .pointer (some ⟨Bl, 0, none⟩)] w fun e w' => e = .returned (.tuple #[]) ∧
      Put base Bn Bl w0 ((Fc.pull p.toNat n.toNat).2 : Int) (xs ++ st (Fc.one p.toNat (Fc.pull p.toNat n.toNat).1)) w' := by
  have A1 := Aside0.mk cn
  have A2 := Aside0.mk cl
  have A3 := Aside0.mk ho
  have A4 := Aside0.mk HB
  have c1 := cell_of_one cn
  have c2 := cell_of_one cl
  have f1 := free_of_one cn
  have f2 := free_of_one cl
  clear cn cl ho HB
  go_enter Try.func42, Try.ntmps42
  go_wp2
  go_loopg [4] n.toNat (fun gk v4 wr => ∃ (j m : Int), v4 = .int .i64 j ∧ Aside0 (0 ≤ j ∧ 0 < m ∧ j + m ≤ n) ∧ Aside0 (m.toNat ≤ gk) ∧ Aside0 (wr.heap[Bn]? = some (.cells #[.int .i64 m] 2 (0, 0))) ∧ Aside0 (wr.heap[Bl]? = some (.cells #[v] 30 (0, 0))) ∧
    Aside0 (Kd.R k38 38 wr base (fun _ => True) v xs) ∧ Aside0 (Below base w0 wr) ∧ Aside0 (Fc.pull p.toNat n.toNat = (j.toNat + (Fc.pull p.toNat m.toNat).1, (Fc.pull p.toNat m.toNat).2)))
  case atStart => exact ⟨0, n, rfl, ⟨by omega⟩, ⟨Nat.le_refl _⟩, A1, A2, A3, A4, ⟨by simp⟩⟩
  case round =>
    clear A1 A2 A3 A4 c1 c2 f1 f2
    obtain ⟨j, m, rfl, b, g, A1, A2, A3, A4, A5⟩ := hrel
    obtain ⟨j0, m0, jm⟩ := b.out
    clear b
    have c1 := cell_of_one A1.out
    have c2 := cell_of_one A2.out
    have f1 := free_of_one A1.out
    have f2 := free_of_one A2.out
    have tm : Int.tmod m p = m % p := Int.tmod_eq_emod_of_nonneg (by omega)
    by_cases hm : m % p = 0
    · have b0 : ((m % p) == 0) = true := beq_iff_eq.mpr hm
      have b1 : (Int.tmod m p) = 0 := tm.trans hm
      have b2 : ((Int.tmod m p) == 0) = true := beq_iff_eq.mpr b1
      clear tm
      obtain ⟨q0, q1, q2⟩ := pull_next h2 m0 hm
      go_wp2
      go_roundg (m / p).toNat
      case measure => have := g.out; omega
      case rel =>
        refine ⟨j + 1, m / p, rfl, ⟨by omega⟩, ⟨Nat.le_refl _⟩, ⟨one_setCell A1.out⟩, ⟨(Below.heap_setCell _ _ _ _ (by show Bl ≠ Bn; omega)).trans A2.out⟩, ⟨Kd.R_set A3.out A1.out (by decide) 0 _⟩, ⟨A4.out.setCell hbn _⟩, ⟨?_⟩⟩
        rw [A5.out, q2]
        simp only [Prod.mk.injEq]
        exact ⟨by omega, trivial⟩
    · have b0 : ((m % p) == 0) = false := beq_eq_false_iff_ne.mpr hm
      have b1 : ¬ (Int.tmod m p) = 0 := fun h => hm (tm ▸ h)
      have b2 : ((Int.tmod m p) == 0) = false := beq_eq_false_iff_ne.mpr b1
      have q := pull_end h2 m0 hm
      have e : Fc.pull p.toNat n.toNat = (j.toNat, m.toNat) := by rw [A5.out, q]; simp
      have E := Aside0.mk e
      clear tm A5 q e
      by_cases hj : 0 < j
      · have hj1 : decide (0 < j) = true := decide_eq_true hj
        go_wp2_with (first | ((with_reducible refine gate_builtin (b := .append) (xs := #[.tmp 16, .tmp 20]) rfl ?_); at_builtin; refine Kd.R_append k38 (w0 := w0) base rfl (.tmp 16) (.tmp 20) 30 38 (.agg #[(.int .i64 0), (.int .i64 0)]) 16 rfl Try.underlying30 info38 rfl (by decide) (by omega) v xs (⟨p, j⟩ : S38) [.int .i64 p, .int .i64 j] (fun _ => True) (fun _ => False) rfl rfl ?aP (fun _ hk => hk.elim) ?aF ?aO ?aB ?aS ?aL ?_))
        case aP => exact k38_mkM _ _ _ (⟨p, j⟩ : S38)
        case aF => exact fun _ _ => trivial
        case aO => exact A3.out
        case aB => exact A4.out
        case aS => exact Nat.le_trans hbn (Nat.le_of_lt (lt_of_block A1.out))
        case aL => omega
        intro v1 w1 ho hb hg hat
        obtain ⟨Ad, cp, rfl, _, _⟩ := Kd.R_reads ho
        have B1 := Aside0.mk ((hg.block Bn (lt_of_block A1.out) (own_ne A3.out A1.out (by decide))).trans A1.out)
        have B2 := Aside0.mk ((hg.block Bl (lt_of_block A2.out) (own_ne A3.out A2.out (by decide))).trans A2.out)
        have B3 := Aside0.mk ho
        have B4 := Aside0.mk hb
        clear A1 A2 A3 A4 c1 c2 f1 f2 ho hb hg hat
        have c1 := cell_of_one B1.out
        have c2 := cell_of_one B2.out
        have f1 := free_of_one B1.out
        have f2 := free_of_one B2.out
        go_wp2
        go_end0
        refine ⟨rfl, .slice Ad (xs.length + 1) cp, ?_⟩
        rw [E.out]
        have e1 : Fc.one p.toNat j.toNat = [(p.toNat, j.toNat)] := by rw [Fc.one, if_neg (by omega)]
        have e2 : st [(p.toNat, j.toNat)] = [(⟨p, j⟩ : S38)] := by simp [st]; omega
        rw [e1, e2, Int.toNat_of_nonneg (by omega)]
        have B5 := B3.out
        rw [show (xs ++ [(⟨p, j⟩ : S38)]).length = xs.length + 1 by simp] at B5
        exact ⟨(Below.heap_setCell _ _ _ _ hne).trans B1.out, one_setCell B2.out, Kd.R_set B5 B2.out (by decide) 0 _, B4.out.setCell hbl _⟩
      · have hj1 : decide (0 < j) = false := decide_eq_false hj
        go_wp2
        go_end0
        refine ⟨rfl, v, ?_⟩
        rw [E.out]
        have j00 : j = 0 := by omega
        subst j00
        rw [show (Fc.one p.toNat (Int.toNat 0)) = [] from rfl, show st [] = [] from rfl, List.append_nil, Int.toNat_of_nonneg (by omega)]
        exact ⟨A1.out, A2.out, A3.out, A4.out⟩
end Go.Proofs.Ytkgejfokdmdikaa
