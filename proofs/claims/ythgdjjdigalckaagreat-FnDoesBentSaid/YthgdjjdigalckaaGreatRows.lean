/-
  No cell of these rows narrows 'for every input' (looked for: loops, veiled, ifaces, maps, wideKeys, modest, calm, conditions, laid).
  DERIVED. THE GIVEN ROWS OF THIS SEAT. 6 by the template 'for every input the law returns true; each argument reads behind the call as it read before'; 0 by the template 'total and deterministic' (their statements: YthgdjjdigalckaaGreatTotals.lean).
  GIVEN WITH THE SEED: the statements are not yours to turn. If you find one false, say at which input.
  Laid BY PROGRAM, IN A SANDBOX (cutbox-rows.mjs): the forced cells as the released guide's own fill.sh prints them over the translation d85fc10f86c98130… (all of the seat's roots in one cut). By AI agents, Wed Nov 11 2026. No macro, syntax, notation, axiom, sorry.
-/
import Derived.Test.YthgdjjdigalckaaGreatChecked
import GoSem.Claim
import GoSem.ClaimJoined
import GoSem.ClaimMapViews
import Derived.JoinedTies
import Derived.KernelRfl
namespace Go.Proofs.YthgdjjdigalckaaGreat
/- THE CELL 'sum', in the pinned program and in every row, IS THE sha256 OF THE DUMP (.gsa) THAT YthgdjjdigalckaaGreatProg.lean LOADS. Nothing in Lean hashes anything: it is a label: what it is worth is what the hold of that sum in a sandbox is worth. -/
noncomputable def Tryz.pinned : Pinned := { name := "ythgdjjdigalckaagreat", sum := "d85fc10f86c98130c9d70214a41dce01806907be4feb2aa5feabb4797c346c87", checked := Tryz.checked }
namespace Rows
def none {H : Type} : Left H := { results := [], args := [] }

/-- 'laws.FnTidiesBent': WHATEVER THE INPUT: true; the input reads as it did. -/
def fnTidiesBentSpec : ChangeSpec := { name := "fnTidiesBent", fn := fun _ => fun
  | [d] => { results := [.lit (.bool true)], args := [d] }
  | _ => none }
def fnTidiesBentRow : OpenClaim := { program := "ythgdjjdigalckaagreat", sum := "d85fc10f86c98130c9d70214a41dce01806907be4feb2aa5feabb4797c346c87", func := "loop.example/g00467/laws.FnTidiesBent", spec := "fnTidiesBent", unfollowed := true, recurses := true, apart := false }
def FnTidiesBentSaid : Prop := fnTidiesBentRow.holds Tryz.pinned (OpenSpec.ofChange fnTidiesBentSpec)

/-- ITS FALSE NEIGHBOUR: 'it returns false'. Refute it at one input. -/
def fnTidiesBentWrong : ChangeSpec := { name := "fnTidiesBent", fn := fun _ => fun
  | [d] => { results := [.lit (.bool false)], args := [d] }
  | _ => none }
def FnTidiesBentWrongFalsely : Prop := fnTidiesBentRow.holds Tryz.pinned (OpenSpec.ofChange fnTidiesBentWrong)

/-- 'laws.FnSnaps': WHATEVER THE INPUT: true; the input reads as it did. -/
def fnSnapsSpec : ChangeSpec := { name := "fnSnaps", fn := fun _ => fun
  | [d] => { results := [.lit (.bool true)], args := [d] }
  | _ => none }
def fnSnapsRow : OpenClaim := { program := "ythgdjjdigalckaagreat", sum := "d85fc10f86c98130c9d70214a41dce01806907be4feb2aa5feabb4797c346c87", func := "loop.example/g00467/laws.FnSnaps", spec := "fnSnaps", inPlace := ["slices.overlaps[loop.example/g00467/impl.Age]"], unfollowed := true, recurses := true, apart := false }
def FnSnapsSaid : Prop := fnSnapsRow.holds Tryz.pinned (OpenSpec.ofChange fnSnapsSpec)

/-- ITS FALSE NEIGHBOUR: 'it returns false'. Refute it at one input. -/
def fnSnapsWrong : ChangeSpec := { name := "fnSnaps", fn := fun _ => fun
  | [d] => { results := [.lit (.bool false)], args := [d] }
  | _ => none }
def FnSnapsWrongFalsely : Prop := fnSnapsRow.holds Tryz.pinned (OpenSpec.ofChange fnSnapsWrong)

/-- 'laws.FnCalmBent': WHATEVER THE INPUT: true; the input reads as it did. -/
def fnCalmBentSpec : ChangeSpec := { name := "fnCalmBent", fn := fun _ => fun
  | [d] => { results := [.lit (.bool true)], args := [d] }
  | _ => none }
def fnCalmBentRow : OpenClaim := { program := "ythgdjjdigalckaagreat", sum := "d85fc10f86c98130c9d70214a41dce01806907be4feb2aa5feabb4797c346c87", func := "loop.example/g00467/laws.FnCalmBent", spec := "fnCalmBent", unfollowed := true, recurses := true, apart := false }
def FnCalmBentSaid : Prop := fnCalmBentRow.holds Tryz.pinned (OpenSpec.ofChange fnCalmBentSpec)

/-- ITS FALSE NEIGHBOUR: 'it returns false'. Refute it at one input. -/
def fnCalmBentWrong : ChangeSpec := { name := "fnCalmBent", fn := fun _ => fun
  | [d] => { results := [.lit (.bool false)], args := [d] }
  | _ => none }
def FnCalmBentWrongFalsely : Prop := fnCalmBentRow.holds Tryz.pinned (OpenSpec.ofChange fnCalmBentWrong)

/-- 'laws.FnImages': WHATEVER THE INPUT: true; the input reads as it did. -/
def fnImagesSpec : ChangeSpec := { name := "fnImages", fn := fun _ => fun
  | [d] => { results := [.lit (.bool true)], args := [d] }
  | _ => none }
def fnImagesRow : OpenClaim := { program := "ythgdjjdigalckaagreat", sum := "d85fc10f86c98130c9d70214a41dce01806907be4feb2aa5feabb4797c346c87", func := "loop.example/g00467/laws.FnImages", spec := "fnImages", unfollowed := true, recurses := true, apart := false }
def FnImagesSaid : Prop := fnImagesRow.holds Tryz.pinned (OpenSpec.ofChange fnImagesSpec)

/-- ITS FALSE NEIGHBOUR: 'it returns false'. Refute it at one input. -/
def fnImagesWrong : ChangeSpec := { name := "fnImages", fn := fun _ => fun
  | [d] => { results := [.lit (.bool false)], args := [d] }
  | _ => none }
def FnImagesWrongFalsely : Prop := fnImagesRow.holds Tryz.pinned (OpenSpec.ofChange fnImagesWrong)

/-- 'laws.FnDoesBent': WHATEVER THE INPUT: true; the input reads as it did. -/
def fnDoesBentSpec : ChangeSpec := { name := "fnDoesBent", fn := fun _ => fun
  | [d] => { results := [.lit (.bool true)], args := [d] }
  | _ => none }
def fnDoesBentRow : OpenClaim := { program := "ythgdjjdigalckaagreat", sum := "d85fc10f86c98130c9d70214a41dce01806907be4feb2aa5feabb4797c346c87", func := "loop.example/g00467/laws.FnDoesBent", spec := "fnDoesBent", inPlace := ["slices.overlaps[loop.example/g00467/impl.Age]"], unfollowed := true, recurses := true, apart := false }
def FnDoesBentSaid : Prop := fnDoesBentRow.holds Tryz.pinned (OpenSpec.ofChange fnDoesBentSpec)

/-- ITS FALSE NEIGHBOUR: 'it returns false'. Refute it at one input. -/
def fnDoesBentWrong : ChangeSpec := { name := "fnDoesBent", fn := fun _ => fun
  | [d] => { results := [.lit (.bool false)], args := [d] }
  | _ => none }
def FnDoesBentWrongFalsely : Prop := fnDoesBentRow.holds Tryz.pinned (OpenSpec.ofChange fnDoesBentWrong)

/-- 'laws.FnParts': WHATEVER THE INPUT: true; the input reads as it did. -/
def fnPartsSpec : ChangeSpec := { name := "fnParts", fn := fun _ => fun
  | [d] => { results := [.lit (.bool true)], args := [d] }
  | _ => none }
def fnPartsRow : OpenClaim := { program := "ythgdjjdigalckaagreat", sum := "d85fc10f86c98130c9d70214a41dce01806907be4feb2aa5feabb4797c346c87", func := "loop.example/g00467/laws.FnParts", spec := "fnParts", unfollowed := true, recurses := true, apart := false }
def FnPartsSaid : Prop := fnPartsRow.holds Tryz.pinned (OpenSpec.ofChange fnPartsSpec)

/-- ITS FALSE NEIGHBOUR: 'it returns false'. Refute it at one input. -/
def fnPartsWrong : ChangeSpec := { name := "fnParts", fn := fun _ => fun
  | [d] => { results := [.lit (.bool false)], args := [d] }
  | _ => none }
def FnPartsWrongFalsely : Prop := fnPartsRow.holds Tryz.pinned (OpenSpec.ofChange fnPartsWrong)

/- THE SECOND FORM. 'bulk': how many values and letters a reading holds, each counted each time it is reached (what is shared counts as often as it is met; a slice's spare places count too). A statement '..UptoSaid' is the law's where the arguments, and the package variables that the reading takes, are together of bulk at most 1048576: NARROWER than '..Said'. Prove '..Said' where nothing that the law and all that it calls make is longer than what came in: it says more and counts as full. Else prove '..UptoSaid'. A law counts once. -/
mutual
def uptoBulk {H : Type} : DataW H → Nat
  | .lit (.string bytes) => bytes.length + 1
  | .lit _ => 1
  | .nil => 1
  | .ptr d => uptoBulk d + 1
  | .slice elems spare => uptoBulkAll elems + uptoBulkAll spare + 1
  | .agg parts => uptoBulkAll parts + 1
  | .iface _ d => uptoBulk d + 1
  | .map entries => uptoBulkEntries entries + 1
  | .held _ => 1
def uptoBulkAll {H : Type} : List (DataW H) → Nat
  | [] => 0
  | d :: r => uptoBulk d + uptoBulkAll r
def uptoBulkEntries {H : Type} : List (Lit × DataW H) → Nat
  | [] => 0
  | x :: r => uptoBulkEntry x + uptoBulkEntries r
def uptoBulkEntry {H : Type} : Lit × DataW H → Nat
  | (.string bytes, d) => bytes.length + uptoBulk d + 1
  | (_, d) => uptoBulk d + 1
 end
def uptoSmall : (H : Type) → List (DataW H) → Bool := fun _ ds => decide (uptoBulkAll ds ≤ 1048576)
def OpenSpec.upto (s : _root_.Go.ChangeSpec) : _root_.Go.OpenSpec := { _root_.Go.OpenSpec.ofChange s with cond := some uptoSmall }

/-- 'laws.FnTidiesBent', WHERE WHAT IT READS IS OF BULK AT MOST 1048576: true; the input reads as it did. -/
def fnTidiesBentUptoRow : OpenClaim := { program := "ythgdjjdigalckaagreat", sum := "d85fc10f86c98130c9d70214a41dce01806907be4feb2aa5feabb4797c346c87", func := "loop.example/g00467/laws.FnTidiesBent", spec := "fnTidiesBent", unfollowed := true, recurses := true, apart := false, narrowed := true }
def FnTidiesBentUptoSaid : Prop := fnTidiesBentUptoRow.holds Tryz.pinned (OpenSpec.upto fnTidiesBentSpec)

/-- 'laws.FnSnaps', WHERE WHAT IT READS IS OF BULK AT MOST 1048576: true; the input reads as it did. -/
def fnSnapsUptoRow : OpenClaim := { program := "ythgdjjdigalckaagreat", sum := "d85fc10f86c98130c9d70214a41dce01806907be4feb2aa5feabb4797c346c87", func := "loop.example/g00467/laws.FnSnaps", spec := "fnSnaps", inPlace := ["slices.overlaps[loop.example/g00467/impl.Age]"], unfollowed := true, recurses := true, apart := false, narrowed := true }
def FnSnapsUptoSaid : Prop := fnSnapsUptoRow.holds Tryz.pinned (OpenSpec.upto fnSnapsSpec)

/-- 'laws.FnCalmBent', WHERE WHAT IT READS IS OF BULK AT MOST 1048576: true; the input reads as it did. -/
def fnCalmBentUptoRow : OpenClaim := { program := "ythgdjjdigalckaagreat", sum := "d85fc10f86c98130c9d70214a41dce01806907be4feb2aa5feabb4797c346c87", func := "loop.example/g00467/laws.FnCalmBent", spec := "fnCalmBent", unfollowed := true, recurses := true, apart := false, narrowed := true }
def FnCalmBentUptoSaid : Prop := fnCalmBentUptoRow.holds Tryz.pinned (OpenSpec.upto fnCalmBentSpec)

/-- 'laws.FnImages', WHERE WHAT IT READS IS OF BULK AT MOST 1048576: true; the input reads as it did. -/
def fnImagesUptoRow : OpenClaim := { program := "ythgdjjdigalckaagreat", sum := "d85fc10f86c98130c9d70214a41dce01806907be4feb2aa5feabb4797c346c87", func := "loop.example/g00467/laws.FnImages", spec := "fnImages", unfollowed := true, recurses := true, apart := false, narrowed := true }
def FnImagesUptoSaid : Prop := fnImagesUptoRow.holds Tryz.pinned (OpenSpec.upto fnImagesSpec)

/-- 'laws.FnDoesBent', WHERE WHAT IT READS IS OF BULK AT MOST 1048576: true; the input reads as it did. -/
def fnDoesBentUptoRow : OpenClaim := { program := "ythgdjjdigalckaagreat", sum := "d85fc10f86c98130c9d70214a41dce01806907be4feb2aa5feabb4797c346c87", func := "loop.example/g00467/laws.FnDoesBent", spec := "fnDoesBent", inPlace := ["slices.overlaps[loop.example/g00467/impl.Age]"], unfollowed := true, recurses := true, apart := false, narrowed := true }
def FnDoesBentUptoSaid : Prop := fnDoesBentUptoRow.holds Tryz.pinned (OpenSpec.upto fnDoesBentSpec)

/-- 'laws.FnParts', WHERE WHAT IT READS IS OF BULK AT MOST 1048576: true; the input reads as it did. -/
def fnPartsUptoRow : OpenClaim := { program := "ythgdjjdigalckaagreat", sum := "d85fc10f86c98130c9d70214a41dce01806907be4feb2aa5feabb4797c346c87", func := "loop.example/g00467/laws.FnParts", spec := "fnParts", unfollowed := true, recurses := true, apart := false, narrowed := true }
def FnPartsUptoSaid : Prop := fnPartsUptoRow.holds Tryz.pinned (OpenSpec.upto fnPartsSpec)

end Rows
end Go.Proofs.YthgdjjdigalckaaGreat
