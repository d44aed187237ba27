/-
  No cell of these rows narrows 'for every input' (looked for: loops, veiled, ifaces, maps, wideKeys, modest, calm, conditions, laid).
  DERIVED. THE GIVEN ROWS OF THIS SEAT. 6 by the template 'for every input the law returns true; each argument reads behind the call as it read before'; 0 by the template 'total and deterministic' (their statements: YtbkhakainjlkeaaGreatTotals.lean).
  GIVEN WITH THE SEED: the statements are not yours to turn. If you find one false, say at which input.
  Laid BY PROGRAM, IN A SANDBOX (cutbox-rows.mjs): the forced cells as the released guide's own fill.sh prints them over the translation 0fe42747f6544e05… (all of the seat's roots in one cut). By AI agents, Wed Nov 11 2026. No macro, syntax, notation, axiom, sorry.
-/
import Derived.Test.YtbkhakainjlkeaaGreatChecked
import GoSem.Claim
import GoSem.ClaimJoined
import GoSem.ClaimMapViews
import Derived.JoinedTies
import Derived.KernelRfl
namespace Go.Proofs.YtbkhakainjlkeaaGreat
/- THE CELL 'sum', in the pinned program and in every row, IS THE sha256 OF THE DUMP (.gsa) THAT YtbkhakainjlkeaaGreatProg.lean LOADS. Nothing in Lean hashes anything: it is a label: what it is worth is what the hold of that sum in a sandbox is worth. -/
noncomputable def Tryz.pinned : Pinned := { name := "ytbkhakainjlkeaagreat", sum := "0fe42747f6544e056f711d6777c3a88e107c9f35c15b81596b51cf5eca0a6ec1", checked := Tryz.checked }
namespace Rows
def none {H : Type} : Left H := { results := [], args := [] }

/-- 'parquetlaw17.TernaryActs': WHATEVER THE INPUT: true; the input reads as it did. -/
def ternaryActsSpec : ChangeSpec := { name := "ternaryActs", fn := fun _ => fun
  | [d1, d2] => { results := [.lit (.bool true)], args := [d1, d2] }
  | _ => none }
def ternaryActsRow : OpenClaim := { program := "ytbkhakainjlkeaagreat", sum := "0fe42747f6544e056f711d6777c3a88e107c9f35c15b81596b51cf5eca0a6ec1", func := "parquet/parquetlaw17.TernaryActs", spec := "ternaryActs", unfollowed := true, recurses := true, apart := false }
def TernaryActsSaid : Prop := ternaryActsRow.holds Tryz.pinned (OpenSpec.ofChange ternaryActsSpec)

/-- ITS FALSE NEIGHBOUR: 'it returns false'. Refute it at one input. -/
def ternaryActsWrong : ChangeSpec := { name := "ternaryActs", fn := fun _ => fun
  | [d1, d2] => { results := [.lit (.bool false)], args := [d1, d2] }
  | _ => none }
def TernaryActsWrongFalsely : Prop := ternaryActsRow.holds Tryz.pinned (OpenSpec.ofChange ternaryActsWrong)

/-- 'parquetlaw17.TernaryForms': WHATEVER THE INPUT: true; the input reads as it did. -/
def ternaryFormsSpec : ChangeSpec := { name := "ternaryForms", fn := fun _ => fun
  | [d] => { results := [.lit (.bool true)], args := [d] }
  | _ => none }
def ternaryFormsRow : OpenClaim := { program := "ytbkhakainjlkeaagreat", sum := "0fe42747f6544e056f711d6777c3a88e107c9f35c15b81596b51cf5eca0a6ec1", func := "parquet/parquetlaw17.TernaryForms", spec := "ternaryForms", unfollowed := true, recurses := true, apart := false }
def TernaryFormsSaid : Prop := ternaryFormsRow.holds Tryz.pinned (OpenSpec.ofChange ternaryFormsSpec)

/-- ITS FALSE NEIGHBOUR: 'it returns false'. Refute it at one input. -/
def ternaryFormsWrong : ChangeSpec := { name := "ternaryForms", fn := fun _ => fun
  | [d] => { results := [.lit (.bool false)], args := [d] }
  | _ => none }
def TernaryFormsWrongFalsely : Prop := ternaryFormsRow.holds Tryz.pinned (OpenSpec.ofChange ternaryFormsWrong)

/-- 'parquetlaw17.TernaryReduces': WHATEVER THE INPUT: true; the input reads as it did. -/
def ternaryReducesSpec : ChangeSpec := { name := "ternaryReduces", fn := fun _ => fun
  | [d1, d2] => { results := [.lit (.bool true)], args := [d1, d2] }
  | _ => none }
def ternaryReducesRow : OpenClaim := { program := "ytbkhakainjlkeaagreat", sum := "0fe42747f6544e056f711d6777c3a88e107c9f35c15b81596b51cf5eca0a6ec1", func := "parquet/parquetlaw17.TernaryReduces", spec := "ternaryReduces", unfollowed := true, recurses := true, apart := false }
def TernaryReducesSaid : Prop := ternaryReducesRow.holds Tryz.pinned (OpenSpec.ofChange ternaryReducesSpec)

/-- ITS FALSE NEIGHBOUR: 'it returns false'. Refute it at one input. -/
def ternaryReducesWrong : ChangeSpec := { name := "ternaryReduces", fn := fun _ => fun
  | [d1, d2] => { results := [.lit (.bool false)], args := [d1, d2] }
  | _ => none }
def TernaryReducesWrongFalsely : Prop := ternaryReducesRow.holds Tryz.pinned (OpenSpec.ofChange ternaryReducesWrong)

/-- 'parquetlaw17.TernaryOnce': WHATEVER THE INPUT: true; the input reads as it did. -/
def ternaryOnceSpec : ChangeSpec := { name := "ternaryOnce", fn := fun _ => fun
  | [d1, d2] => { results := [.lit (.bool true)], args := [d1, d2] }
  | _ => none }
def ternaryOnceRow : OpenClaim := { program := "ytbkhakainjlkeaagreat", sum := "0fe42747f6544e056f711d6777c3a88e107c9f35c15b81596b51cf5eca0a6ec1", func := "parquet/parquetlaw17.TernaryOnce", spec := "ternaryOnce", unfollowed := true, recurses := true, apart := false }
def TernaryOnceSaid : Prop := ternaryOnceRow.holds Tryz.pinned (OpenSpec.ofChange ternaryOnceSpec)

/-- ITS FALSE NEIGHBOUR: 'it returns false'. Refute it at one input. -/
def ternaryOnceWrong : ChangeSpec := { name := "ternaryOnce", fn := fun _ => fun
  | [d1, d2] => { results := [.lit (.bool false)], args := [d1, d2] }
  | _ => none }
def TernaryOnceWrongFalsely : Prop := ternaryOnceRow.holds Tryz.pinned (OpenSpec.ofChange ternaryOnceWrong)

/-- 'parquetlaw17.TernaryKnown': WHATEVER THE INPUT: true; the input reads as it did. -/
def ternaryKnownSpec : ChangeSpec := { name := "ternaryKnown", fn := fun _ => fun
  | [] => { results := [.lit (.bool true)], args := [] }
  | _ => none }
def ternaryKnownRow : OpenClaim := { program := "ytbkhakainjlkeaagreat", sum := "0fe42747f6544e056f711d6777c3a88e107c9f35c15b81596b51cf5eca0a6ec1", func := "parquet/parquetlaw17.TernaryKnown", spec := "ternaryKnown", unfollowed := true, recurses := true, apart := false }
def TernaryKnownSaid : Prop := ternaryKnownRow.holds Tryz.pinned (OpenSpec.ofChange ternaryKnownSpec)

/-- ITS FALSE NEIGHBOUR: 'it returns false'. Refute it at one input. -/
def ternaryKnownWrong : ChangeSpec := { name := "ternaryKnown", fn := fun _ => fun
  | [] => { results := [.lit (.bool false)], args := [] }
  | _ => none }
def TernaryKnownWrongFalsely : Prop := ternaryKnownRow.holds Tryz.pinned (OpenSpec.ofChange ternaryKnownWrong)

/-- 'parquetlaw17.TernaryBounds': WHATEVER THE INPUT: true; the input reads as it did. -/
def ternaryBoundsSpec : ChangeSpec := { name := "ternaryBounds", fn := fun _ => fun
  | [d] => { results := [.lit (.bool true)], args := [d] }
  | _ => none }
def ternaryBoundsRow : OpenClaim := { program := "ytbkhakainjlkeaagreat", sum := "0fe42747f6544e056f711d6777c3a88e107c9f35c15b81596b51cf5eca0a6ec1", func := "parquet/parquetlaw17.TernaryBounds", spec := "ternaryBounds", unfollowed := true, recurses := true, apart := false }
def TernaryBoundsSaid : Prop := ternaryBoundsRow.holds Tryz.pinned (OpenSpec.ofChange ternaryBoundsSpec)

/-- ITS FALSE NEIGHBOUR: 'it returns false'. Refute it at one input. -/
def ternaryBoundsWrong : ChangeSpec := { name := "ternaryBounds", fn := fun _ => fun
  | [d] => { results := [.lit (.bool false)], args := [d] }
  | _ => none }
def TernaryBoundsWrongFalsely : Prop := ternaryBoundsRow.holds Tryz.pinned (OpenSpec.ofChange ternaryBoundsWrong)

/- THE SECOND FORM. 'bulk': how many values and letters a reading holds, each counted each time it is reached (what is shared counts as often as it is met; a slice's spare places count too). A statement '..UptoSaid' is the law's where the arguments, and the package variables that the reading takes, are together of bulk at most 1048576: NARROWER than '..Said'. Prove '..Said' where nothing that the law and all that it calls make is longer than what came in: it says more and counts as full. Else prove '..UptoSaid'. A law counts once. -/
mutual
def uptoBulk {H : Type} : DataW H → Nat
  | .lit (.string bytes) => bytes.length + 1
  | .lit _ => 1
  | .nil => 1
  | .ptr d => uptoBulk d + 1
  | .slice elems spare => uptoBulkAll elems + uptoBulkAll spare + 1
  | .agg parts => uptoBulkAll parts + 1
  | .iface _ d => uptoBulk d + 1
  | .map entries => uptoBulkEntries entries + 1
  | .held _ => 1
def uptoBulkAll {H : Type} : List (DataW H) → Nat
  | [] => 0
  | d :: r => uptoBulk d + uptoBulkAll r
def uptoBulkEntries {H : Type} : List (Lit × DataW H) → Nat
  | [] => 0
  | x :: r => uptoBulkEntry x + uptoBulkEntries r
def uptoBulkEntry {H : Type} : Lit × DataW H → Nat
  | (.string bytes, d) => bytes.length + uptoBulk d + 1
  | (_, d) => uptoBulk d + 1
 end
def uptoSmall : (H : Type) → List (DataW H) → Bool := fun _ ds => decide (uptoBulkAll ds ≤ 1048576)
def OpenSpec.upto (s : _root_.Go.ChangeSpec) : _root_.Go.OpenSpec := { _root_.Go.OpenSpec.ofChange s with cond := some uptoSmall }

/-- 'parquetlaw17.TernaryActs', WHERE WHAT IT READS IS OF BULK AT MOST 1048576: true; the input reads as it did. -/
def ternaryActsUptoRow : OpenClaim := { program := "ytbkhakainjlkeaagreat", sum := "0fe42747f6544e056f711d6777c3a88e107c9f35c15b81596b51cf5eca0a6ec1", func := "parquet/parquetlaw17.TernaryActs", spec := "ternaryActs", unfollowed := true, recurses := true, apart := false, narrowed := true }
def TernaryActsUptoSaid : Prop := ternaryActsUptoRow.holds Tryz.pinned (OpenSpec.upto ternaryActsSpec)

/-- 'parquetlaw17.TernaryForms', WHERE WHAT IT READS IS OF BULK AT MOST 1048576: true; the input reads as it did. -/
def ternaryFormsUptoRow : OpenClaim := { program := "ytbkhakainjlkeaagreat", sum := "0fe42747f6544e056f711d6777c3a88e107c9f35c15b81596b51cf5eca0a6ec1", func := "parquet/parquetlaw17.TernaryForms", spec := "ternaryForms", unfollowed := true, recurses := true, apart := false, narrowed := true }
def TernaryFormsUptoSaid : Prop := ternaryFormsUptoRow.holds Tryz.pinned (OpenSpec.upto ternaryFormsSpec)

/-- 'parquetlaw17.TernaryReduces', WHERE WHAT IT READS IS OF BULK AT MOST 1048576: true; the input reads as it did. -/
def ternaryReducesUptoRow : OpenClaim := { program := "ytbkhakainjlkeaagreat", sum := "0fe42747f6544e056f711d6777c3a88e107c9f35c15b81596b51cf5eca0a6ec1", func := "parquet/parquetlaw17.TernaryReduces", spec := "ternaryReduces", unfollowed := true, recurses := true, apart := false, narrowed := true }
def TernaryReducesUptoSaid : Prop := ternaryReducesUptoRow.holds Tryz.pinned (OpenSpec.upto ternaryReducesSpec)

/-- 'parquetlaw17.TernaryOnce', WHERE WHAT IT READS IS OF BULK AT MOST 1048576: true; the input reads as it did. -/
def ternaryOnceUptoRow : OpenClaim := { program := "ytbkhakainjlkeaagreat", sum := "0fe42747f6544e056f711d6777c3a88e107c9f35c15b81596b51cf5eca0a6ec1", func := "parquet/parquetlaw17.TernaryOnce", spec := "ternaryOnce", unfollowed := true, recurses := true, apart := false, narrowed := true }
def TernaryOnceUptoSaid : Prop := ternaryOnceUptoRow.holds Tryz.pinned (OpenSpec.upto ternaryOnceSpec)

/-- 'parquetlaw17.TernaryKnown', WHERE WHAT IT READS IS OF BULK AT MOST 1048576: true; the input reads as it did. -/
def ternaryKnownUptoRow : OpenClaim := { program := "ytbkhakainjlkeaagreat", sum := "0fe42747f6544e056f711d6777c3a88e107c9f35c15b81596b51cf5eca0a6ec1", func := "parquet/parquetlaw17.TernaryKnown", spec := "ternaryKnown", unfollowed := true, recurses := true, apart := false, narrowed := true }
def TernaryKnownUptoSaid : Prop := ternaryKnownUptoRow.holds Tryz.pinned (OpenSpec.upto ternaryKnownSpec)

/-- 'parquetlaw17.TernaryBounds', WHERE WHAT IT READS IS OF BULK AT MOST 1048576: true; the input reads as it did. -/
def ternaryBoundsUptoRow : OpenClaim := { program := "ytbkhakainjlkeaagreat", sum := "0fe42747f6544e056f711d6777c3a88e107c9f35c15b81596b51cf5eca0a6ec1", func := "parquet/parquetlaw17.TernaryBounds", spec := "ternaryBounds", unfollowed := true, recurses := true, apart := false, narrowed := true }
def TernaryBoundsUptoSaid : Prop := ternaryBoundsUptoRow.holds Tryz.pinned (OpenSpec.upto ternaryBoundsSpec)

end Rows
end Go.Proofs.YtbkhakainjlkeaaGreat
