/- The library's sort at numbers of 64 bits: the shelf's laying at this program (its text is the shelf's own tool's), and what it leaves of a list that the call owns: the same list, sorted. -/
import Derived.Shelf.SortG.Plain
import Derived.Shelf.SortG.SortNone
import Derived.Sort.OwnSortedInts
import Derived.Test.YtkgejfokdmdikaaSt
import Derived.Test.YtkgejfokdmdikaaFd
namespace Go.Proofs.Ytkgejfokdmdikaa
open Go Go.Shelf
def sort64_ren : Go.Shelf.Ren := ⟨fun | 53 => 43 | 64 => 56 | 63 => 55 | 78 => 75 | 79 => 76 | 70 => 66 | 71 => 67 | 72 => 68 | 73 => 69 | 74 => 70 | 75 => 71 | 59 => 72 | 76 => 73 | 77 => 74 | 88 => 85 | 89 => 86 | 90 => 87 | 91 => 88 | 92 => 89 | 68 => 90 | 96 => 97 | n => n, fun | 22 => 33 | 23 => 2 | 3 => 3 | 51 => 51 | 0 => 0 | 67 => 43 | 69 => 50 | 4 => 4 | 61 => 89 | 60 => 88 | 44 => 93 | 5 => 5 | 9 => 9 | 75 => 103 | 79 => 107 | 83 => 115 | 84 => 116 | n => n, fun | n => n⟩
theorem sort64 : Go.Proofs.SlLaysN.n53 Try.prog sort64_ren := {
  mixed := by kernel_rfl
  f53 := ⟨Try.f43.name, by decide, Try.func43.trans (congrArg some (by kernel_rfl))⟩
  f59 := ⟨Try.f72.name, by decide, Try.func72.trans (congrArg some (by kernel_rfl))⟩
  f63 := ⟨Try.f55.name, by decide, Try.func55.trans (congrArg some (by kernel_rfl))⟩
  f64 := Try.func56.trans (congrArg some (by kernel_rfl))
  f68 := ⟨Try.f90.name, by decide, Try.func90.trans (congrArg some (by kernel_rfl))⟩
  f70 := ⟨Try.f66.name, by decide, Try.func66.trans (congrArg some (by kernel_rfl))⟩
  f71 := ⟨Try.f67.name, by decide, Try.func67.trans (congrArg some (by kernel_rfl))⟩
  f72 := ⟨Try.f68.name, by decide, Try.func68.trans (congrArg some (by kernel_rfl))⟩
  f73 := ⟨Try.f69.name, by decide, Try.func69.trans (congrArg some (by kernel_rfl))⟩
  f74 := ⟨Try.f70.name, by decide, Try.func70.trans (congrArg some (by kernel_rfl))⟩
  f75 := ⟨Try.f71.name, by decide, Try.func71.trans (congrArg some (by kernel_rfl))⟩
  f76 := ⟨Try.f73.name, by decide, Try.func73.trans (congrArg some (by kernel_rfl))⟩
  f77 := ⟨Try.f74.name, by decide, Try.func74.trans (congrArg some (by kernel_rfl))⟩
  f78 := Try.func75.trans (congrArg some (by kernel_rfl))
  f79 := Try.func76.trans (congrArg some (by kernel_rfl))
  f88 := ⟨Try.f85.name, by decide, Try.func85.trans (congrArg some (by kernel_rfl))⟩
  f89 := Try.func86.trans (congrArg some (by kernel_rfl))
  f90 := Try.func87.trans (congrArg some (by kernel_rfl))
  f91 := ⟨Try.f88.name, by decide, Try.func88.trans (congrArg some (by kernel_rfl))⟩
  f92 := ⟨Try.f89.name, by decide, Try.func89.trans (congrArg some (by kernel_rfl))⟩
  f96 := ⟨Try.f97.name, by decide, Try.func97.trans (congrArg some (by kernel_rfl))⟩
  t0 := Try.underlying0
  a0 := Try.isAgg0
  z0 := Try.sizeOf0
  v0 := Try.zeroValue0
  t3 := Try.underlying3
  a3 := Try.isAgg3
  z3 := Try.sizeOf3
  v3 := Try.zeroValue3
  t4 := Try.underlying4
  a4 := Try.isAgg4
  z4 := Try.sizeOf4
  v4 := Try.zeroValue4
  t5 := Try.underlying5
  a5 := Try.isAgg5
  z5 := Try.sizeOf5
  v5 := Try.zeroValue5
  t9 := Try.underlying9
  a9 := Try.isAgg9
  z9 := Try.sizeOf9
  v9 := Try.zeroValue9
  t22 := Try.underlying33
  a22 := Try.isAgg33
  z22 := Try.sizeOf33
  v22 := Try.zeroValue33
  t23 := Try.underlying2
  a23 := Try.isAgg2
  z23 := Try.sizeOf2
  v23 := Try.zeroValue2
  t44 := Try.underlying93
  a44 := Try.isAgg93
  z44 := Try.sizeOf93
  v44 := Try.zeroValue93
  t51 := Try.underlying51
  a51 := Try.isAgg51
  z51 := Try.sizeOf51
  v51 := Try.zeroValue51
  t60 := Try.underlying88
  a60 := Try.isAgg88
  z60 := Try.sizeOf88
  v60 := Try.zeroValue88
  t61 := Try.underlying89
  a61 := Try.isAgg89
  z61 := Try.sizeOf89
  v61 := Try.zeroValue89
  t67 := Try.underlying43
  a67 := Try.isAgg43
  z67 := Try.sizeOf43
  v67 := Try.zeroValue43
  t69 := Try.underlying50
  a69 := Try.isAgg50
  z69 := Try.sizeOf50
  v69 := Try.zeroValue50
  t75 := Try.underlying103
  a75 := Try.isAgg103
  z75 := Try.sizeOf103
  v75 := Try.zeroValue103
  t79 := Try.underlying107
  a79 := Try.isAgg107
  z79 := Try.sizeOf107
  v79 := Try.zeroValue107
  t83 := Try.underlying115
  a83 := Try.isAgg115
  z83 := Try.sizeOf115
  v83 := Try.zeroValue115
  t84 := Try.underlying116
  a84 := Try.isAgg116
  z84 := Try.sizeOf116
  v84 := Try.zeroValue116 }

open Go.Sort Go.RowKit Go.Proofs.YtkgejfokdmdikaaW.PrintWords
theorem sort_own (base : Nat) (v : Value) (xs : List Int) (w0 w : World) (HB : Below base w0 w) (ho : w.ownsRow base 2 1 v xs.length (xs.map (Value.int .i64))) (hl : xs.length < 4611686018427387904) :
    Calls Try.prog 43 #[v] w fun e w' => e = .returned (.tuple #[]) ∧ w'.ownsRow base 2 1 v xs.length ((Fc.srt xs).map (Value.int .i64)) ∧ Below base w0 w' := by
  rcases ho.2 with ⟨rfl, h0⟩ | ⟨g, cap, cur, rfl, hg, hh, hc, hm, hs, ht⟩
  · refine (AnyG.slices_Sort_int_none sort64 none 0 w).mono ?_
    rintro e w' ⟨rfl, rfl⟩
    obtain rfl : xs = [] := List.length_eq_zero_iff.1 h0
    rw [show Fc.srt [] = [] by simp [Fc.srt]]
    exact ⟨rfl, ho, HB⟩
  · have hH : Holds (Value.int .i64) w g 0 xs.toArray := holds_of_blockI hh (by simpa using ht)
    refine (AnyG.slices_Sort_int sort64 g 0 cap xs w hH (Array.getElem?_eq_some_iff.1 hh).1 hl).mono ?_
    rintro e w' ⟨rfl, n, os, rfl⟩
    refine ⟨rfl, ?_, HB.grown (grownBy_sortedI _) (Nat.le_trans hg (Nat.le_of_lt (Array.getElem?_eq_some_iff.1 hh).1)) (fun k hk => by cases hk; exact hg)⟩
    exact ownsRow_sortedI (ss := xs) (ts := Fc.srt xs) (Fc.srt_length xs) hg hh hc hm hs
end Go.Proofs.Ytkgejfokdmdikaa
