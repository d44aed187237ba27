/-
  No cell of these rows narrows 'for every input' (looked for: loops, veiled, ifaces, maps, wideKeys, modest, calm, conditions, laid).
  DERIVED. THE GIVEN ROWS OF THIS SEAT. 9 by the template 'for every input the law returns true; each argument reads behind the call as it read before'; 0 by the template 'total and deterministic' (their statements: YtkgejfokdmdikaaTotals.lean).
  GIVEN WITH THE SEED: the statements are not yours to turn. If you find one false, say at which input.
  Laid BY PROGRAM, IN A SANDBOX (cutbox-rows.mjs): the forced cells as the released guide's own fill.sh prints them over the translation b84dafe883f839b9… (all of the seat's roots in one cut). By AI agents, Wed Nov 11 2026. No macro, syntax, notation, axiom, sorry.
-/
import Derived.Test.YtkgejfokdmdikaaChecked
import GoSem.Claim
import GoSem.ClaimJoined
import GoSem.ClaimMapViews
import Derived.JoinedTies
import Derived.KernelRfl
namespace Go.Proofs.Ytkgejfokdmdikaa
/- THE CELL 'sum', in the pinned program and in every row, IS THE sha256 OF THE DUMP (.gsa) THAT YtkgejfokdmdikaaProg.lean LOADS. Nothing in Lean hashes anything: it is a label: what it is worth is what the hold of that sum in a sandbox is worth. -/
noncomputable def Try.pinned : Pinned := { name := "ytkgejfokdmdikaa", sum := "b84dafe883f839b90985b0f9a9a3b7463f9727792fe6482ff7786eb507f9ba37", checked := Try.checked }
namespace Rows
def none {H : Type} : Left H := { results := [], args := [] }

/-- 'parquetlaw04.ModularKroneckers': WHATEVER THE INPUT: true; the input reads as it did. -/
def modularKroneckersSpec : ChangeSpec := { name := "modularKroneckers", fn := fun _ => fun
  | [d1, d2] => { results := [.lit (.bool true)], args := [d1, d2] }
  | _ => none }
def modularKroneckersRow : OpenClaim := { program := "ytkgejfokdmdikaa", sum := "b84dafe883f839b90985b0f9a9a3b7463f9727792fe6482ff7786eb507f9ba37", func := "parquet/parquetlaw04.ModularKroneckers", spec := "modularKroneckers", unfollowed := true, recurses := true, named := ["math/bits.divideError", "math/bits.overflowError"], apart := false }
def ModularKroneckersSaid : Prop := modularKroneckersRow.holds Try.pinned (OpenSpec.ofChange modularKroneckersSpec)

/-- ITS FALSE NEIGHBOUR: 'it returns false'. Refute it at one input. -/
def modularKroneckersWrong : ChangeSpec := { name := "modularKroneckers", fn := fun _ => fun
  | [d1, d2] => { results := [.lit (.bool false)], args := [d1, d2] }
  | _ => none }
def ModularKroneckersWrongFalsely : Prop := modularKroneckersRow.holds Try.pinned (OpenSpec.ofChange modularKroneckersWrong)

/-- 'parquetlaw04.ModularRoots': WHATEVER THE INPUT: true; the input reads as it did. -/
def modularRootsSpec : ChangeSpec := { name := "modularRoots", fn := fun _ => fun
  | [d1, d2] => { results := [.lit (.bool true)], args := [d1, d2] }
  | _ => none }
def modularRootsRow : OpenClaim := { program := "ytkgejfokdmdikaa", sum := "b84dafe883f839b90985b0f9a9a3b7463f9727792fe6482ff7786eb507f9ba37", func := "parquet/parquetlaw04.ModularRoots", spec := "modularRoots", unfollowed := true, recurses := true, named := ["math/bits.divideError", "math/bits.overflowError"], apart := false }
def ModularRootsSaid : Prop := modularRootsRow.holds Try.pinned (OpenSpec.ofChange modularRootsSpec)

/-- ITS FALSE NEIGHBOUR: 'it returns false'. Refute it at one input. -/
def modularRootsWrong : ChangeSpec := { name := "modularRoots", fn := fun _ => fun
  | [d1, d2] => { results := [.lit (.bool false)], args := [d1, d2] }
  | _ => none }
def ModularRootsWrongFalsely : Prop := modularRootsRow.holds Try.pinned (OpenSpec.ofChange modularRootsWrong)

/-- 'parquetlaw04.ModularFactors': WHATEVER THE INPUT: true; the input reads as it did. -/
def modularFactorsSpec : ChangeSpec := { name := "modularFactors", fn := fun _ => fun
  | [d] => { results := [.lit (.bool true)], args := [d] }
  | _ => none }
def modularFactorsRow : OpenClaim := { program := "ytkgejfokdmdikaa", sum := "b84dafe883f839b90985b0f9a9a3b7463f9727792fe6482ff7786eb507f9ba37", func := "parquet/parquetlaw04.ModularFactors", spec := "modularFactors", unfollowed := true, recurses := true, named := ["math/bits.divideError", "math/bits.overflowError"], apart := false }
def ModularFactorsSaid : Prop := modularFactorsRow.holds Try.pinned (OpenSpec.ofChange modularFactorsSpec)

/-- ITS FALSE NEIGHBOUR: 'it returns false'. Refute it at one input. -/
def modularFactorsWrong : ChangeSpec := { name := "modularFactors", fn := fun _ => fun
  | [d] => { results := [.lit (.bool false)], args := [d] }
  | _ => none }
def ModularFactorsWrongFalsely : Prop := modularFactorsRow.holds Try.pinned (OpenSpec.ofChange modularFactorsWrong)

/-- 'parquetlaw04.ModularParts': WHATEVER THE INPUT: true; the input reads as it did. -/
def modularPartsSpec : ChangeSpec := { name := "modularParts", fn := fun _ => fun
  | [d] => { results := [.lit (.bool true)], args := [d] }
  | _ => none }
def modularPartsRow : OpenClaim := { program := "ytkgejfokdmdikaa", sum := "b84dafe883f839b90985b0f9a9a3b7463f9727792fe6482ff7786eb507f9ba37", func := "parquet/parquetlaw04.ModularParts", spec := "modularParts", unfollowed := true, recurses := true, named := ["math/bits.divideError", "math/bits.overflowError"], apart := false }
def ModularPartsSaid : Prop := modularPartsRow.holds Try.pinned (OpenSpec.ofChange modularPartsSpec)

/-- ITS FALSE NEIGHBOUR: 'it returns false'. Refute it at one input. -/
def modularPartsWrong : ChangeSpec := { name := "modularParts", fn := fun _ => fun
  | [d] => { results := [.lit (.bool false)], args := [d] }
  | _ => none }
def ModularPartsWrongFalsely : Prop := modularPartsRow.holds Try.pinned (OpenSpec.ofChange modularPartsWrong)

/-- 'parquetlaw04.ModularMuls': WHATEVER THE INPUT: true; the input reads as it did. -/
def modularMulsSpec : ChangeSpec := { name := "modularMuls", fn := fun _ => fun
  | [d1, d2, d3] => { results := [.lit (.bool true)], args := [d1, d2, d3] }
  | _ => none }
def modularMulsRow : OpenClaim := { program := "ytkgejfokdmdikaa", sum := "b84dafe883f839b90985b0f9a9a3b7463f9727792fe6482ff7786eb507f9ba37", func := "parquet/parquetlaw04.ModularMuls", spec := "modularMuls", unfollowed := true, recurses := true, named := ["math/bits.divideError", "math/bits.overflowError"], apart := false }
def ModularMulsSaid : Prop := modularMulsRow.holds Try.pinned (OpenSpec.ofChange modularMulsSpec)

/-- ITS FALSE NEIGHBOUR: 'it returns false'. Refute it at one input. -/
def modularMulsWrong : ChangeSpec := { name := "modularMuls", fn := fun _ => fun
  | [d1, d2, d3] => { results := [.lit (.bool false)], args := [d1, d2, d3] }
  | _ => none }
def ModularMulsWrongFalsely : Prop := modularMulsRow.holds Try.pinned (OpenSpec.ofChange modularMulsWrong)

/-- 'parquetlaw04.ModularPowers': WHATEVER THE INPUT: true; the input reads as it did. -/
def modularPowersSpec : ChangeSpec := { name := "modularPowers", fn := fun _ => fun
  | [d1, d2, d3, d4, d5, d6] => { results := [.lit (.bool true)], args := [d1, d2, d3, d4, d5, d6] }
  | _ => none }
def modularPowersRow : OpenClaim := { program := "ytkgejfokdmdikaa", sum := "b84dafe883f839b90985b0f9a9a3b7463f9727792fe6482ff7786eb507f9ba37", func := "parquet/parquetlaw04.ModularPowers", spec := "modularPowers", unfollowed := true, recurses := true, named := ["math/bits.divideError", "math/bits.overflowError"], apart := false }
def ModularPowersSaid : Prop := modularPowersRow.holds Try.pinned (OpenSpec.ofChange modularPowersSpec)

/-- ITS FALSE NEIGHBOUR: 'it returns false'. Refute it at one input. -/
def modularPowersWrong : ChangeSpec := { name := "modularPowers", fn := fun _ => fun
  | [d1, d2, d3, d4, d5, d6] => { results := [.lit (.bool false)], args := [d1, d2, d3, d4, d5, d6] }
  | _ => none }
def ModularPowersWrongFalsely : Prop := modularPowersRow.holds Try.pinned (OpenSpec.ofChange modularPowersWrong)

/-- 'parquetlaw04.ModularCrts': WHATEVER THE INPUT: true; the input reads as it did. -/
def modularCrtsSpec : ChangeSpec := { name := "modularCrts", fn := fun _ => fun
  | [d1, d2, d3, d4] => { results := [.lit (.bool true)], args := [d1, d2, d3, d4] }
  | _ => none }
def modularCrtsRow : OpenClaim := { program := "ytkgejfokdmdikaa", sum := "b84dafe883f839b90985b0f9a9a3b7463f9727792fe6482ff7786eb507f9ba37", func := "parquet/parquetlaw04.ModularCrts", spec := "modularCrts", unfollowed := true, recurses := true, named := ["math/bits.divideError", "math/bits.overflowError"], apart := false }
def ModularCrtsSaid : Prop := modularCrtsRow.holds Try.pinned (OpenSpec.ofChange modularCrtsSpec)

/-- ITS FALSE NEIGHBOUR: 'it returns false'. Refute it at one input. -/
def modularCrtsWrong : ChangeSpec := { name := "modularCrts", fn := fun _ => fun
  | [d1, d2, d3, d4] => { results := [.lit (.bool false)], args := [d1, d2, d3, d4] }
  | _ => none }
def ModularCrtsWrongFalsely : Prop := modularCrtsRow.holds Try.pinned (OpenSpec.ofChange modularCrtsWrong)

/-- 'parquetlaw04.ModularKnown': WHATEVER THE INPUT: true; the input reads as it did. -/
def modularKnownSpec : ChangeSpec := { name := "modularKnown", fn := fun _ => fun
  | [] => { results := [.lit (.bool true)], args := [] }
  | _ => none }
def modularKnownRow : OpenClaim := { program := "ytkgejfokdmdikaa", sum := "b84dafe883f839b90985b0f9a9a3b7463f9727792fe6482ff7786eb507f9ba37", func := "parquet/parquetlaw04.ModularKnown", spec := "modularKnown", unfollowed := true, recurses := true, named := ["math/bits.divideError", "math/bits.overflowError"], apart := false }
def ModularKnownSaid : Prop := modularKnownRow.holds Try.pinned (OpenSpec.ofChange modularKnownSpec)

/-- ITS FALSE NEIGHBOUR: 'it returns false'. Refute it at one input. -/
def modularKnownWrong : ChangeSpec := { name := "modularKnown", fn := fun _ => fun
  | [] => { results := [.lit (.bool false)], args := [] }
  | _ => none }
def ModularKnownWrongFalsely : Prop := modularKnownRow.holds Try.pinned (OpenSpec.ofChange modularKnownWrong)

/-- 'parquetlaw04.ModularSymbols': WHATEVER THE INPUT: true; the input reads as it did. -/
def modularSymbolsSpec : ChangeSpec := { name := "modularSymbols", fn := fun _ => fun
  | [d1, d2, d3, d4] => { results := [.lit (.bool true)], args := [d1, d2, d3, d4] }
  | _ => none }
def modularSymbolsRow : OpenClaim := { program := "ytkgejfokdmdikaa", sum := "b84dafe883f839b90985b0f9a9a3b7463f9727792fe6482ff7786eb507f9ba37", func := "parquet/parquetlaw04.ModularSymbols", spec := "modularSymbols", unfollowed := true, recurses := true, named := ["math/bits.divideError", "math/bits.overflowError"], apart := false }
def ModularSymbolsSaid : Prop := modularSymbolsRow.holds Try.pinned (OpenSpec.ofChange modularSymbolsSpec)

/-- ITS FALSE NEIGHBOUR: 'it returns false'. Refute it at one input. -/
def modularSymbolsWrong : ChangeSpec := { name := "modularSymbols", fn := fun _ => fun
  | [d1, d2, d3, d4] => { results := [.lit (.bool false)], args := [d1, d2, d3, d4] }
  | _ => none }
def ModularSymbolsWrongFalsely : Prop := modularSymbolsRow.holds Try.pinned (OpenSpec.ofChange modularSymbolsWrong)

/- THE SECOND FORM. 'bulk': how many values and letters a reading holds, each counted each time it is reached (what is shared counts as often as it is met; a slice's spare places count too). A statement '..UptoSaid' is the law's where the arguments, and the package variables that the reading takes, are together of bulk at most 1048576: NARROWER than '..Said'. Prove '..Said' where nothing that the law and all that it calls make is longer than what came in: it says more and counts as full. Else prove '..UptoSaid'. A law counts once. -/
mutual
def uptoBulk {H : Type} : DataW H → Nat
  | .lit (.string bytes) => bytes.length + 1
  | .lit _ => 1
  | .nil => 1
  | .ptr d => uptoBulk d + 1
  | .slice elems spare => uptoBulkAll elems + uptoBulkAll spare + 1
  | .agg parts => uptoBulkAll parts + 1
  | .iface _ d => uptoBulk d + 1
  | .map entries => uptoBulkEntries entries + 1
  | .held _ => 1
def uptoBulkAll {H : Type} : List (DataW H) → Nat
  | [] => 0
  | d :: r => uptoBulk d + uptoBulkAll r
def uptoBulkEntries {H : Type} : List (Lit × DataW H) → Nat
  | [] => 0
  | x :: r => uptoBulkEntry x + uptoBulkEntries r
def uptoBulkEntry {H : Type} : Lit × DataW H → Nat
  | (.string bytes, d) => bytes.length + uptoBulk d + 1
  | (_, d) => uptoBulk d + 1
 end
def uptoSmall : (H : Type) → List (DataW H) → Bool := fun _ ds => decide (uptoBulkAll ds ≤ 1048576)
def OpenSpec.upto (s : _root_.Go.ChangeSpec) : _root_.Go.OpenSpec := { _root_.Go.OpenSpec.ofChange s with cond := some uptoSmall }

/-- 'parquetlaw04.ModularKroneckers', WHERE WHAT IT READS IS OF BULK AT MOST 1048576: true; the input reads as it did. -/
def modularKroneckersUptoRow : OpenClaim := { program := "ytkgejfokdmdikaa", sum := "b84dafe883f839b90985b0f9a9a3b7463f9727792fe6482ff7786eb507f9ba37", func := "parquet/parquetlaw04.ModularKroneckers", spec := "modularKroneckers", unfollowed := true, recurses := true, named := ["math/bits.divideError", "math/bits.overflowError"], apart := false, narrowed := true }
def ModularKroneckersUptoSaid : Prop := modularKroneckersUptoRow.holds Try.pinned (OpenSpec.upto modularKroneckersSpec)

/-- 'parquetlaw04.ModularRoots', WHERE WHAT IT READS IS OF BULK AT MOST 1048576: true; the input reads as it did. -/
def modularRootsUptoRow : OpenClaim := { program := "ytkgejfokdmdikaa", sum := "b84dafe883f839b90985b0f9a9a3b7463f9727792fe6482ff7786eb507f9ba37", func := "parquet/parquetlaw04.ModularRoots", spec := "modularRoots", unfollowed := true, recurses := true, named := ["math/bits.divideError", "math/bits.overflowError"], apart := false, narrowed := true }
def ModularRootsUptoSaid : Prop := modularRootsUptoRow.holds Try.pinned (OpenSpec.upto modularRootsSpec)

/-- 'parquetlaw04.ModularFactors', WHERE WHAT IT READS IS OF BULK AT MOST 1048576: true; the input reads as it did. -/
def modularFactorsUptoRow : OpenClaim := { program := "ytkgejfokdmdikaa", sum := "b84dafe883f839b90985b0f9a9a3b7463f9727792fe6482ff7786eb507f9ba37", func := "parquet/parquetlaw04.ModularFactors", spec := "modularFactors", unfollowed := true, recurses := true, named := ["math/bits.divideError", "math/bits.overflowError"], apart := false, narrowed := true }
def ModularFactorsUptoSaid : Prop := modularFactorsUptoRow.holds Try.pinned (OpenSpec.upto modularFactorsSpec)

/-- 'parquetlaw04.ModularParts', WHERE WHAT IT READS IS OF BULK AT MOST 1048576: true; the input reads as it did. -/
def modularPartsUptoRow : OpenClaim := { program := "ytkgejfokdmdikaa", sum := "b84dafe883f839b90985b0f9a9a3b7463f9727792fe6482ff7786eb507f9ba37", func := "parquet/parquetlaw04.ModularParts", spec := "modularParts", unfollowed := true, recurses := true, named := ["math/bits.divideError", "math/bits.overflowError"], apart := false, narrowed := true }
def ModularPartsUptoSaid : Prop := modularPartsUptoRow.holds Try.pinned (OpenSpec.upto modularPartsSpec)

/-- 'parquetlaw04.ModularMuls', WHERE WHAT IT READS IS OF BULK AT MOST 1048576: true; the input reads as it did. -/
def modularMulsUptoRow : OpenClaim := { program := "ytkgejfokdmdikaa", sum := "b84dafe883f839b90985b0f9a9a3b7463f9727792fe6482ff7786eb507f9ba37", func := "parquet/parquetlaw04.ModularMuls", spec := "modularMuls", unfollowed := true, recurses := true, named := ["math/bits.divideError", "math/bits.overflowError"], apart := false, narrowed := true }
def ModularMulsUptoSaid : Prop := modularMulsUptoRow.holds Try.pinned (OpenSpec.upto modularMulsSpec)

/-- 'parquetlaw04.ModularPowers', WHERE WHAT IT READS IS OF BULK AT MOST 1048576: true; the input reads as it did. -/
def modularPowersUptoRow : OpenClaim := { program := "ytkgejfokdmdikaa", sum := "b84dafe883f839b90985b0f9a9a3b7463f9727792fe6482ff7786eb507f9ba37", func := "parquet/parquetlaw04.ModularPowers", spec := "modularPowers", unfollowed := true, recurses := true, named := ["math/bits.divideError", "math/bits.overflowError"], apart := false, narrowed := true }
def ModularPowersUptoSaid : Prop := modularPowersUptoRow.holds Try.pinned (OpenSpec.upto modularPowersSpec)

/-- 'parquetlaw04.ModularCrts', WHERE WHAT IT READS IS OF BULK AT MOST 1048576: true; the input reads as it did. -/
def modularCrtsUptoRow : OpenClaim := { program := "ytkgejfokdmdikaa", sum := "b84dafe883f839b90985b0f9a9a3b7463f9727792fe6482ff7786eb507f9ba37", func := "parquet/parquetlaw04.ModularCrts", spec := "modularCrts", unfollowed := true, recurses := true, named := ["math/bits.divideError", "math/bits.overflowError"], apart := false, narrowed := true }
def ModularCrtsUptoSaid : Prop := modularCrtsUptoRow.holds Try.pinned (OpenSpec.upto modularCrtsSpec)

/-- 'parquetlaw04.ModularKnown', WHERE WHAT IT READS IS OF BULK AT MOST 1048576: true; the input reads as it did. -/
def modularKnownUptoRow : OpenClaim := { program := "ytkgejfokdmdikaa", sum := "b84dafe883f839b90985b0f9a9a3b7463f9727792fe6482ff7786eb507f9ba37", func := "parquet/parquetlaw04.ModularKnown", spec := "modularKnown", unfollowed := true, recurses := true, named := ["math/bits.divideError", "math/bits.overflowError"], apart := false, narrowed := true }
def ModularKnownUptoSaid : Prop := modularKnownUptoRow.holds Try.pinned (OpenSpec.upto modularKnownSpec)

/-- 'parquetlaw04.ModularSymbols', WHERE WHAT IT READS IS OF BULK AT MOST 1048576: true; the input reads as it did. -/
def modularSymbolsUptoRow : OpenClaim := { program := "ytkgejfokdmdikaa", sum := "b84dafe883f839b90985b0f9a9a3b7463f9727792fe6482ff7786eb507f9ba37", func := "parquet/parquetlaw04.ModularSymbols", spec := "modularSymbols", unfollowed := true, recurses := true, named := ["math/bits.divideError", "math/bits.overflowError"], apart := false, narrowed := true }
def ModularSymbolsUptoSaid : Prop := modularSymbolsUptoRow.holds Try.pinned (OpenSpec.upto modularSymbolsSpec)

end Rows
end Go.Proofs.Ytkgejfokdmdikaa
