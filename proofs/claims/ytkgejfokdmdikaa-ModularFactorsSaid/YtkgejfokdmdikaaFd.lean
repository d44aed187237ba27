/- Numbers in order: the divisors, sorted, rise strictly, and stand in pairs whose product is the number. Plain Lean, no program. -/
import Derived.Test.YtkgejfokdmdikaaFc
namespace Go.Proofs.Ytkgejfokdmdikaa.Fc
open Go.Proofs.Ytkgejfokdmdikaa
set_option maxRecDepth 10000

def srt (l : List Int) : List Int := l.mergeSort fun x y => decide (x ≤ y)
theorem srt_perm (l : List Int) : (srt l).Perm l := List.mergeSort_perm _ _
theorem srt_sorted (l : List Int) : (srt l).Pairwise (· ≤ ·) :=
  (List.pairwise_mergeSort (le := fun x y : Int => decide (x ≤ y)) (fun a b c h1 h2 => by simp at *; omega) (fun a b => by simp; omega) l).imp fun h => by simpa using h
theorem srt_eq {l s : List Int} (hp : s.Perm l) (hs : s.Pairwise (· ≤ ·)) : s = srt l :=
  List.Perm.eq_of_pairwise (le := (· ≤ ·)) (fun _ _ _ _ h1 h2 => Int.le_antisymm h1 h2) hs (srt_sorted l) (hp.trans (srt_perm l).symm)
theorem srt_length (l : List Int) : (srt l).length = l.length := (srt_perm l).length_eq

def ints (l : List Nat) : List Int := l.map Int.ofNat

theorem ints_nodup {l : List Nat} (h : l.Nodup) : (ints l).Nodup := by
  rw [ints, List.nodup_iff_pairwise_ne, List.pairwise_map]
  exact (List.nodup_iff_pairwise_ne.1 h).imp fun ne e => ne (Int.ofNat.inj e)

theorem srt_strict {l : List Int} (h : l.Nodup) : (srt l).Pairwise (· < ·) := by
  have h2 : (srt l).Nodup := (srt_perm l).nodup_iff.2 h
  have h3 := List.Pairwise.and (srt_sorted l) (List.nodup_iff_pairwise_ne.1 h2)
  exact h3.imp fun ⟨a, b⟩ => by omega

theorem turned {s m : List Int} (h : m.reverse = s) (hl : m.length = s.length) (i : Nat) (hi : i < s.length) : s[s.length - 1 - i]? = m[i]? := by
  subst h
  rw [List.getElem?_reverse (by omega), hl]
  congr 1; omega
theorem pairs {N : Nat} {l : List Nat} (g : Good N l) (i : Nat) (hi : i < (srt (ints l)).length) :
    (srt (ints l))[i] * (srt (ints l))[(srt (ints l)).length - 1 - i]'(by omega) = (N : Int) := by
  -- the sorted list, turned and each over N, is itself
  have hm : ∀ x ∈ srt (ints l), ∃ y ∈ l, x = (y : Int) ∧ 0 < y ∧ y ∣ N := fun x hx => by
    have := (srt_perm _).mem_iff.1 hx
    obtain ⟨y, hy, rfl⟩ := List.mem_map.1 this
    exact ⟨y, hy, rfl, g.x0 y hy, g.dvd y hy⟩
  have key : ((srt (ints l)).map fun x => (N : Int) / x).reverse = srt (ints l) := by
    refine srt_eq (((List.reverse_perm _).trans ((srt_perm (ints l)).map _)).trans ?_) ?_
    · have : (ints l).map (fun x => (N : Int) / x) = ints (l.map (N / ·)) := by
        rw [ints, ints, List.map_map, List.map_map]
        refine List.map_congr_left fun x _ => ?_
        show (N : Int) / (x : Int) = ((N / x : Nat) : Int)
        rw [Int.natCast_ediv]
      rw [this]; exact g.pair.map _
    · rw [List.pairwise_reverse, List.pairwise_map]
      refine List.Pairwise.imp_of_mem ?_ (srt_sorted (ints l))
      intro a b ha hb hab
      obtain ⟨x, _, rfl, x0, xd⟩ := hm a ha
      obtain ⟨y, _, rfl, y0, yd⟩ := hm b hb
      show (N : Int) / (y : Int) ≤ (N : Int) / (x : Int)
      have : N / y ≤ N / x := Nat.div_le_div_left (by omega) x0
      rw [← Int.natCast_ediv, ← Int.natCast_ediv]; omega
  have e : (srt (ints l))[(srt (ints l)).length - 1 - i]'(by omega) = (N : Int) / (srt (ints l))[i] := by
    have h1 : (srt (ints l))[(srt (ints l)).length - 1 - i]? = some ((N : Int) / (srt (ints l))[i]) := by
      rw [turned key (by simp) i hi, List.getElem?_map, List.getElem?_eq_getElem hi]; rfl
    obtain ⟨_, h2⟩ := List.getElem?_eq_some_iff.1 h1
    exact h2
  rw [e]
  obtain ⟨x, _, hx, x0, xd⟩ := hm _ (List.getElem_mem hi)
  rw [hx]
  exact Int.mul_ediv_cancel' (Int.natCast_dvd_natCast.2 xd)

end Go.Proofs.Ytkgejfokdmdikaa.Fc
