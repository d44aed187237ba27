/-
  No cell of these rows narrows 'for every input' (looked for: loops, veiled, ifaces, maps, wideKeys, modest, calm, conditions, laid).
  DERIVED. THE GIVEN ROWS OF THIS SEAT. 7 by the template 'for every input the law returns true; each argument reads behind the call as it read before'; 0 by the template 'total and deterministic' (their statements: YtkffcclalncgdaaTotals.lean).
  GIVEN WITH THE SEED: the statements are not yours to turn. If you find one false, say at which input.
  Laid BY PROGRAM, IN A SANDBOX (cutbox-rows.mjs): the forced cells as the released guide's own fill.sh prints them over the translation 1467bdbb75ed2a77… (all of the seat's roots in one cut). By AI agents, Wed Nov 11 2026. No macro, syntax, notation, axiom, sorry.
-/
import Derived.Test.YtkffcclalncgdaaChecked
import GoSem.Claim
import GoSem.ClaimJoined
import GoSem.ClaimMapViews
import Derived.JoinedTies
import Derived.KernelRfl
namespace Go.Proofs.Ytkffcclalncgdaa
/- THE CELL 'sum', in the pinned program and in every row, IS THE sha256 OF THE DUMP (.gsa) THAT YtkffcclalncgdaaProg.lean LOADS. Nothing in Lean hashes anything: it is a label: what it is worth is what the hold of that sum in a sandbox is worth. -/
noncomputable def Try.pinned : Pinned := { name := "ytkffcclalncgdaa", sum := "1467bdbb75ed2a77ce72f3342f2b3a13c9d6712d5eca5191cb5bbf52a8285a77", checked := Try.checked }
namespace Rows
def none {H : Type} : Left H := { results := [], args := [] }

/-- 'parquetlaw19.ChainTells': WHATEVER THE INPUT: true; the input reads as it did. -/
def chainTellsSpec : ChangeSpec := { name := "chainTells", fn := fun _ => fun
  | [d1, d2, d3] => { results := [.lit (.bool true)], args := [d1, d2, d3] }
  | _ => none }
def chainTellsRow : OpenClaim := { program := "ytkffcclalncgdaa", sum := "1467bdbb75ed2a77ce72f3342f2b3a13c9d6712d5eca5191cb5bbf52a8285a77", func := "parquet/parquetlaw19.ChainTells", spec := "chainTells", unfollowed := true, recurses := true, plainKeys := false, apart := false }
def ChainTellsSaid : Prop := chainTellsRow.holds Try.pinned (OpenSpec.ofChange chainTellsSpec)

/-- ITS FALSE NEIGHBOUR: 'it returns false'. Refute it at one input. -/
def chainTellsWrong : ChangeSpec := { name := "chainTells", fn := fun _ => fun
  | [d1, d2, d3] => { results := [.lit (.bool false)], args := [d1, d2, d3] }
  | _ => none }
def ChainTellsWrongFalsely : Prop := chainTellsRow.holds Try.pinned (OpenSpec.ofChange chainTellsWrong)

/-- 'parquetlaw19.ChainCounts': WHATEVER THE INPUT: true; the input reads as it did. -/
def chainCountsSpec : ChangeSpec := { name := "chainCounts", fn := fun _ => fun
  | [d1, d2, d3] => { results := [.lit (.bool true)], args := [d1, d2, d3] }
  | _ => none }
def chainCountsRow : OpenClaim := { program := "ytkffcclalncgdaa", sum := "1467bdbb75ed2a77ce72f3342f2b3a13c9d6712d5eca5191cb5bbf52a8285a77", func := "parquet/parquetlaw19.ChainCounts", spec := "chainCounts", unfollowed := true, recurses := true, plainKeys := false, apart := false }
def ChainCountsSaid : Prop := chainCountsRow.holds Try.pinned (OpenSpec.ofChange chainCountsSpec)

/-- ITS FALSE NEIGHBOUR: 'it returns false'. Refute it at one input. -/
def chainCountsWrong : ChangeSpec := { name := "chainCounts", fn := fun _ => fun
  | [d1, d2, d3] => { results := [.lit (.bool false)], args := [d1, d2, d3] }
  | _ => none }
def ChainCountsWrongFalsely : Prop := chainCountsRow.holds Try.pinned (OpenSpec.ofChange chainCountsWrong)

/-- 'parquetlaw19.ChainSame': WHATEVER THE INPUT: true; the input reads as it did. -/
def chainSameSpec : ChangeSpec := { name := "chainSame", fn := fun _ => fun
  | [d1, d2, d3] => { results := [.lit (.bool true)], args := [d1, d2, d3] }
  | _ => none }
def chainSameRow : OpenClaim := { program := "ytkffcclalncgdaa", sum := "1467bdbb75ed2a77ce72f3342f2b3a13c9d6712d5eca5191cb5bbf52a8285a77", func := "parquet/parquetlaw19.ChainSame", spec := "chainSame", unfollowed := true, recurses := true, plainKeys := false, apart := false }
def ChainSameSaid : Prop := chainSameRow.holds Try.pinned (OpenSpec.ofChange chainSameSpec)

/-- ITS FALSE NEIGHBOUR: 'it returns false'. Refute it at one input. -/
def chainSameWrong : ChangeSpec := { name := "chainSame", fn := fun _ => fun
  | [d1, d2, d3] => { results := [.lit (.bool false)], args := [d1, d2, d3] }
  | _ => none }
def ChainSameWrongFalsely : Prop := chainSameRow.holds Try.pinned (OpenSpec.ofChange chainSameWrong)

/-- 'parquetlaw19.ChainTakes': WHATEVER THE INPUT: true; the input reads as it did. -/
def chainTakesSpec : ChangeSpec := { name := "chainTakes", fn := fun _ => fun
  | [d1, d2, d3, d4] => { results := [.lit (.bool true)], args := [d1, d2, d3, d4] }
  | _ => none }
def chainTakesRow : OpenClaim := { program := "ytkffcclalncgdaa", sum := "1467bdbb75ed2a77ce72f3342f2b3a13c9d6712d5eca5191cb5bbf52a8285a77", func := "parquet/parquetlaw19.ChainTakes", spec := "chainTakes", unfollowed := true, recurses := true, plainKeys := false, apart := false }
def ChainTakesSaid : Prop := chainTakesRow.holds Try.pinned (OpenSpec.ofChange chainTakesSpec)

/-- ITS FALSE NEIGHBOUR: 'it returns false'. Refute it at one input. -/
def chainTakesWrong : ChangeSpec := { name := "chainTakes", fn := fun _ => fun
  | [d1, d2, d3, d4] => { results := [.lit (.bool false)], args := [d1, d2, d3, d4] }
  | _ => none }
def ChainTakesWrongFalsely : Prop := chainTakesRow.holds Try.pinned (OpenSpec.ofChange chainTakesWrong)

/-- 'parquetlaw19.ChainNil': WHATEVER THE INPUT: true; the input reads as it did. -/
def chainNilSpec : ChangeSpec := { name := "chainNil", fn := fun _ => fun
  | [d] => { results := [.lit (.bool true)], args := [d] }
  | _ => none }
def chainNilRow : OpenClaim := { program := "ytkffcclalncgdaa", sum := "1467bdbb75ed2a77ce72f3342f2b3a13c9d6712d5eca5191cb5bbf52a8285a77", func := "parquet/parquetlaw19.ChainNil", spec := "chainNil", unfollowed := true, recurses := true, plainKeys := false, apart := false }
def ChainNilSaid : Prop := chainNilRow.holds Try.pinned (OpenSpec.ofChange chainNilSpec)

/-- ITS FALSE NEIGHBOUR: 'it returns false'. Refute it at one input. -/
def chainNilWrong : ChangeSpec := { name := "chainNil", fn := fun _ => fun
  | [d] => { results := [.lit (.bool false)], args := [d] }
  | _ => none }
def ChainNilWrongFalsely : Prop := chainNilRow.holds Try.pinned (OpenSpec.ofChange chainNilWrong)

/-- 'parquetlaw19.ChainKnown': WHATEVER THE INPUT: true; the input reads as it did. -/
def chainKnownSpec : ChangeSpec := { name := "chainKnown", fn := fun _ => fun
  | [] => { results := [.lit (.bool true)], args := [] }
  | _ => none }
def chainKnownRow : OpenClaim := { program := "ytkffcclalncgdaa", sum := "1467bdbb75ed2a77ce72f3342f2b3a13c9d6712d5eca5191cb5bbf52a8285a77", func := "parquet/parquetlaw19.ChainKnown", spec := "chainKnown", unfollowed := true, recurses := true, plainKeys := false, apart := false }
def ChainKnownSaid : Prop := chainKnownRow.holds Try.pinned (OpenSpec.ofChange chainKnownSpec)

/-- ITS FALSE NEIGHBOUR: 'it returns false'. Refute it at one input. -/
def chainKnownWrong : ChangeSpec := { name := "chainKnown", fn := fun _ => fun
  | [] => { results := [.lit (.bool false)], args := [] }
  | _ => none }
def ChainKnownWrongFalsely : Prop := chainKnownRow.holds Try.pinned (OpenSpec.ofChange chainKnownWrong)

/-- 'parquetlaw19.ChainProduct': WHATEVER THE INPUT: true; the input reads as it did. -/
def chainProductSpec : ChangeSpec := { name := "chainProduct", fn := fun _ => fun
  | [d1, d2] => { results := [.lit (.bool true)], args := [d1, d2] }
  | _ => none }
def chainProductRow : OpenClaim := { program := "ytkffcclalncgdaa", sum := "1467bdbb75ed2a77ce72f3342f2b3a13c9d6712d5eca5191cb5bbf52a8285a77", func := "parquet/parquetlaw19.ChainProduct", spec := "chainProduct", unfollowed := true, recurses := true, plainKeys := false, apart := false }
def ChainProductSaid : Prop := chainProductRow.holds Try.pinned (OpenSpec.ofChange chainProductSpec)

/-- ITS FALSE NEIGHBOUR: 'it returns false'. Refute it at one input. -/
def chainProductWrong : ChangeSpec := { name := "chainProduct", fn := fun _ => fun
  | [d1, d2] => { results := [.lit (.bool false)], args := [d1, d2] }
  | _ => none }
def ChainProductWrongFalsely : Prop := chainProductRow.holds Try.pinned (OpenSpec.ofChange chainProductWrong)

/- THE SECOND FORM. 'bulk': how many values and letters a reading holds, each counted each time it is reached (what is shared counts as often as it is met; a slice's spare places count too). A statement '..UptoSaid' is the law's where the arguments, and the package variables that the reading takes, are together of bulk at most 1048576: NARROWER than '..Said'. Prove '..Said' where nothing that the law and all that it calls make is longer than what came in: it says more and counts as full. Else prove '..UptoSaid'. A law counts once. -/
mutual
def uptoBulk {H : Type} : DataW H → Nat
  | .lit (.string bytes) => bytes.length + 1
  | .lit _ => 1
  | .nil => 1
  | .ptr d => uptoBulk d + 1
  | .slice elems spare => uptoBulkAll elems + uptoBulkAll spare + 1
  | .agg parts => uptoBulkAll parts + 1
  | .iface _ d => uptoBulk d + 1
  | .map entries => uptoBulkEntries entries + 1
  | .held _ => 1
def uptoBulkAll {H : Type} : List (DataW H) → Nat
  | [] => 0
  | d :: r => uptoBulk d + uptoBulkAll r
def uptoBulkEntries {H : Type} : List (Lit × DataW H) → Nat
  | [] => 0
  | x :: r => uptoBulkEntry x + uptoBulkEntries r
def uptoBulkEntry {H : Type} : Lit × DataW H → Nat
  | (.string bytes, d) => bytes.length + uptoBulk d + 1
  | (_, d) => uptoBulk d + 1
 end
def uptoSmall : (H : Type) → List (DataW H) → Bool := fun _ ds => decide (uptoBulkAll ds ≤ 1048576)
def OpenSpec.upto (s : _root_.Go.ChangeSpec) : _root_.Go.OpenSpec := { _root_.Go.OpenSpec.ofChange s with cond := some uptoSmall }

/-- 'parquetlaw19.ChainTells', WHERE WHAT IT READS IS OF BULK AT MOST 1048576: true; the input reads as it did. -/
def chainTellsUptoRow : OpenClaim := { program := "ytkffcclalncgdaa", sum := "1467bdbb75ed2a77ce72f3342f2b3a13c9d6712d5eca5191cb5bbf52a8285a77", func := "parquet/parquetlaw19.ChainTells", spec := "chainTells", unfollowed := true, recurses := true, plainKeys := false, apart := false, narrowed := true }
def ChainTellsUptoSaid : Prop := chainTellsUptoRow.holds Try.pinned (OpenSpec.upto chainTellsSpec)

/-- 'parquetlaw19.ChainCounts', WHERE WHAT IT READS IS OF BULK AT MOST 1048576: true; the input reads as it did. -/
def chainCountsUptoRow : OpenClaim := { program := "ytkffcclalncgdaa", sum := "1467bdbb75ed2a77ce72f3342f2b3a13c9d6712d5eca5191cb5bbf52a8285a77", func := "parquet/parquetlaw19.ChainCounts", spec := "chainCounts", unfollowed := true, recurses := true, plainKeys := false, apart := false, narrowed := true }
def ChainCountsUptoSaid : Prop := chainCountsUptoRow.holds Try.pinned (OpenSpec.upto chainCountsSpec)

/-- 'parquetlaw19.ChainSame', WHERE WHAT IT READS IS OF BULK AT MOST 1048576: true; the input reads as it did. -/
def chainSameUptoRow : OpenClaim := { program := "ytkffcclalncgdaa", sum := "1467bdbb75ed2a77ce72f3342f2b3a13c9d6712d5eca5191cb5bbf52a8285a77", func := "parquet/parquetlaw19.ChainSame", spec := "chainSame", unfollowed := true, recurses := true, plainKeys := false, apart := false, narrowed := true }
def ChainSameUptoSaid : Prop := chainSameUptoRow.holds Try.pinned (OpenSpec.upto chainSameSpec)

/-- 'parquetlaw19.ChainTakes', WHERE WHAT IT READS IS OF BULK AT MOST 1048576: true; the input reads as it did. -/
def chainTakesUptoRow : OpenClaim := { program := "ytkffcclalncgdaa", sum := "1467bdbb75ed2a77ce72f3342f2b3a13c9d6712d5eca5191cb5bbf52a8285a77", func := "parquet/parquetlaw19.ChainTakes", spec := "chainTakes", unfollowed := true, recurses := true, plainKeys := false, apart := false, narrowed := true }
def ChainTakesUptoSaid : Prop := chainTakesUptoRow.holds Try.pinned (OpenSpec.upto chainTakesSpec)

/-- 'parquetlaw19.ChainNil', WHERE WHAT IT READS IS OF BULK AT MOST 1048576: true; the input reads as it did. -/
def chainNilUptoRow : OpenClaim := { program := "ytkffcclalncgdaa", sum := "1467bdbb75ed2a77ce72f3342f2b3a13c9d6712d5eca5191cb5bbf52a8285a77", func := "parquet/parquetlaw19.ChainNil", spec := "chainNil", unfollowed := true, recurses := true, plainKeys := false, apart := false, narrowed := true }
def ChainNilUptoSaid : Prop := chainNilUptoRow.holds Try.pinned (OpenSpec.upto chainNilSpec)

/-- 'parquetlaw19.ChainKnown', WHERE WHAT IT READS IS OF BULK AT MOST 1048576: true; the input reads as it did. -/
def chainKnownUptoRow : OpenClaim := { program := "ytkffcclalncgdaa", sum := "1467bdbb75ed2a77ce72f3342f2b3a13c9d6712d5eca5191cb5bbf52a8285a77", func := "parquet/parquetlaw19.ChainKnown", spec := "chainKnown", unfollowed := true, recurses := true, plainKeys := false, apart := false, narrowed := true }
def ChainKnownUptoSaid : Prop := chainKnownUptoRow.holds Try.pinned (OpenSpec.upto chainKnownSpec)

/-- 'parquetlaw19.ChainProduct', WHERE WHAT IT READS IS OF BULK AT MOST 1048576: true; the input reads as it did. -/
def chainProductUptoRow : OpenClaim := { program := "ytkffcclalncgdaa", sum := "1467bdbb75ed2a77ce72f3342f2b3a13c9d6712d5eca5191cb5bbf52a8285a77", func := "parquet/parquetlaw19.ChainProduct", spec := "chainProduct", unfollowed := true, recurses := true, plainKeys := false, apart := false, narrowed := true }
def ChainProductUptoSaid : Prop := chainProductUptoRow.holds Try.pinned (OpenSpec.upto chainProductSpec)

end Rows
end Go.Proofs.Ytkffcclalncgdaa
