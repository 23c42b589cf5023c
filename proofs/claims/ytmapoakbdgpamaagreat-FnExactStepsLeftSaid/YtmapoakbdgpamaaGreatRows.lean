/-
  No cell of these rows narrows 'for every input' (looked for: loops, veiled, ifaces, maps, wideKeys, modest, calm, conditions, laid).
  DERIVED. THE GIVEN ROWS OF THIS SEAT. 7 by the template 'for every input the law returns true; each argument reads behind the call as it read before'; 0 by the template 'total and deterministic' (their statements: YtmapoakbdgpamaaGreatTotals.lean).
  GIVEN WITH THE SEED: the statements are not yours to turn. If you find one false, say at which input.
  Laid BY PROGRAM, IN A SANDBOX (cutbox-rows.mjs): the forced cells as the released guide's own fill.sh prints them over the translation 4215efc75e29f95b… (all of the seat's roots in one cut). By AI agents, Wed Nov 11 2026. No macro, syntax, notation, axiom, sorry.
-/
import Derived.Test.YtmapoakbdgpamaaGreatChecked
import GoSem.Claim
import GoSem.ClaimJoined
import GoSem.ClaimMapViews
import Derived.JoinedTies
import Derived.KernelRfl
namespace Go.Proofs.YtmapoakbdgpamaaGreat
/- THE CELL 'sum', in the pinned program and in every row, IS THE sha256 OF THE DUMP (.gsa) THAT YtmapoakbdgpamaaGreatProg.lean LOADS. Nothing in Lean hashes anything: it is a label: what it is worth is what the hold of that sum in a sandbox is worth. -/
noncomputable def Tryz.pinned : Pinned := { name := "ytmapoakbdgpamaagreat", sum := "4215efc75e29f95b55c57f4c84c305c171c1a7729c9df5e3c46914b396ee3705", checked := Tryz.checked }
namespace Rows
def none {H : Type} : Left H := { results := [], args := [] }

/-- 'laws.FnExactPutPool': WHATEVER THE INPUT: true; the input reads as it did. -/
def fnExactPutPoolSpec : ChangeSpec := { name := "fnExactPutPool", fn := fun _ => fun
  | [d] => { results := [.lit (.bool true)], args := [d] }
  | _ => none }
def fnExactPutPoolRow : OpenClaim := { program := "ytmapoakbdgpamaagreat", sum := "4215efc75e29f95b55c57f4c84c305c171c1a7729c9df5e3c46914b396ee3705", func := "loop.example/g00467/laws.FnExactPutPool", spec := "fnExactPutPool", unfollowed := true, recurses := true, apart := false }
def FnExactPutPoolSaid : Prop := fnExactPutPoolRow.holds Tryz.pinned (OpenSpec.ofChange fnExactPutPoolSpec)

/-- ITS FALSE NEIGHBOUR: 'it returns false'. Refute it at one input. -/
def fnExactPutPoolWrong : ChangeSpec := { name := "fnExactPutPool", fn := fun _ => fun
  | [d] => { results := [.lit (.bool false)], args := [d] }
  | _ => none }
def FnExactPutPoolWrongFalsely : Prop := fnExactPutPoolRow.holds Tryz.pinned (OpenSpec.ofChange fnExactPutPoolWrong)

/-- 'laws.FnExactBestOf': WHATEVER THE INPUT: true; the input reads as it did. -/
def fnExactBestOfSpec : ChangeSpec := { name := "fnExactBestOf", fn := fun _ => fun
  | [d] => { results := [.lit (.bool true)], args := [d] }
  | _ => none }
def fnExactBestOfRow : OpenClaim := { program := "ytmapoakbdgpamaagreat", sum := "4215efc75e29f95b55c57f4c84c305c171c1a7729c9df5e3c46914b396ee3705", func := "loop.example/g00467/laws.FnExactBestOf", spec := "fnExactBestOf", unfollowed := true, recurses := true, apart := false }
def FnExactBestOfSaid : Prop := fnExactBestOfRow.holds Tryz.pinned (OpenSpec.ofChange fnExactBestOfSpec)

/-- ITS FALSE NEIGHBOUR: 'it returns false'. Refute it at one input. -/
def fnExactBestOfWrong : ChangeSpec := { name := "fnExactBestOf", fn := fun _ => fun
  | [d] => { results := [.lit (.bool false)], args := [d] }
  | _ => none }
def FnExactBestOfWrongFalsely : Prop := fnExactBestOfRow.holds Tryz.pinned (OpenSpec.ofChange fnExactBestOfWrong)

/-- 'laws.FnExactGetPool': WHATEVER THE INPUT: true; the input reads as it did. -/
def fnExactGetPoolSpec : ChangeSpec := { name := "fnExactGetPool", fn := fun _ => fun
  | [d] => { results := [.lit (.bool true)], args := [d] }
  | _ => none }
def fnExactGetPoolRow : OpenClaim := { program := "ytmapoakbdgpamaagreat", sum := "4215efc75e29f95b55c57f4c84c305c171c1a7729c9df5e3c46914b396ee3705", func := "loop.example/g00467/laws.FnExactGetPool", spec := "fnExactGetPool", unfollowed := true, recurses := true, apart := false }
def FnExactGetPoolSaid : Prop := fnExactGetPoolRow.holds Tryz.pinned (OpenSpec.ofChange fnExactGetPoolSpec)

/-- ITS FALSE NEIGHBOUR: 'it returns false'. Refute it at one input. -/
def fnExactGetPoolWrong : ChangeSpec := { name := "fnExactGetPool", fn := fun _ => fun
  | [d] => { results := [.lit (.bool false)], args := [d] }
  | _ => none }
def FnExactGetPoolWrongFalsely : Prop := fnExactGetPoolRow.holds Tryz.pinned (OpenSpec.ofChange fnExactGetPoolWrong)

/-- 'laws.FnExactFormat': WHATEVER THE INPUT: true; the input reads as it did. -/
def fnExactFormatSpec : ChangeSpec := { name := "fnExactFormat", fn := fun _ => fun
  | [] => { results := [.lit (.bool true)], args := [] }
  | _ => none }
def fnExactFormatRow : OpenClaim := { program := "ytmapoakbdgpamaagreat", sum := "4215efc75e29f95b55c57f4c84c305c171c1a7729c9df5e3c46914b396ee3705", func := "loop.example/g00467/laws.FnExactFormat", spec := "fnExactFormat", unfollowed := true, recurses := true, apart := false }
def FnExactFormatSaid : Prop := fnExactFormatRow.holds Tryz.pinned (OpenSpec.ofChange fnExactFormatSpec)

/-- ITS FALSE NEIGHBOUR: 'it returns false'. Refute it at one input. -/
def fnExactFormatWrong : ChangeSpec := { name := "fnExactFormat", fn := fun _ => fun
  | [] => { results := [.lit (.bool false)], args := [] }
  | _ => none }
def FnExactFormatWrongFalsely : Prop := fnExactFormatRow.holds Tryz.pinned (OpenSpec.ofChange fnExactFormatWrong)

/-- 'laws.FnExactSync': WHATEVER THE INPUT: true; the input reads as it did. -/
def fnExactSyncSpec : ChangeSpec := { name := "fnExactSync", fn := fun _ => fun
  | [d] => { results := [.lit (.bool true)], args := [d] }
  | _ => none }
def fnExactSyncRow : OpenClaim := { program := "ytmapoakbdgpamaagreat", sum := "4215efc75e29f95b55c57f4c84c305c171c1a7729c9df5e3c46914b396ee3705", func := "loop.example/g00467/laws.FnExactSync", spec := "fnExactSync", unfollowed := true, recurses := true, apart := false }
def FnExactSyncSaid : Prop := fnExactSyncRow.holds Tryz.pinned (OpenSpec.ofChange fnExactSyncSpec)

/-- ITS FALSE NEIGHBOUR: 'it returns false'. Refute it at one input. -/
def fnExactSyncWrong : ChangeSpec := { name := "fnExactSync", fn := fun _ => fun
  | [d] => { results := [.lit (.bool false)], args := [d] }
  | _ => none }
def FnExactSyncWrongFalsely : Prop := fnExactSyncRow.holds Tryz.pinned (OpenSpec.ofChange fnExactSyncWrong)

/-- 'laws.FnExactCheckpoint': WHATEVER THE INPUT: true; the input reads as it did. -/
def fnExactCheckpointSpec : ChangeSpec := { name := "fnExactCheckpoint", fn := fun _ => fun
  | [d] => { results := [.lit (.bool true)], args := [d] }
  | _ => none }
def fnExactCheckpointRow : OpenClaim := { program := "ytmapoakbdgpamaagreat", sum := "4215efc75e29f95b55c57f4c84c305c171c1a7729c9df5e3c46914b396ee3705", func := "loop.example/g00467/laws.FnExactCheckpoint", spec := "fnExactCheckpoint", unfollowed := true, recurses := true, apart := false }
def FnExactCheckpointSaid : Prop := fnExactCheckpointRow.holds Tryz.pinned (OpenSpec.ofChange fnExactCheckpointSpec)

/-- ITS FALSE NEIGHBOUR: 'it returns false'. Refute it at one input. -/
def fnExactCheckpointWrong : ChangeSpec := { name := "fnExactCheckpoint", fn := fun _ => fun
  | [d] => { results := [.lit (.bool false)], args := [d] }
  | _ => none }
def FnExactCheckpointWrongFalsely : Prop := fnExactCheckpointRow.holds Tryz.pinned (OpenSpec.ofChange fnExactCheckpointWrong)

/-- 'laws.FnExactStepsLeft': WHATEVER THE INPUT: true; the input reads as it did. -/
def fnExactStepsLeftSpec : ChangeSpec := { name := "fnExactStepsLeft", fn := fun _ => fun
  | [d] => { results := [.lit (.bool true)], args := [d] }
  | _ => none }
def fnExactStepsLeftRow : OpenClaim := { program := "ytmapoakbdgpamaagreat", sum := "4215efc75e29f95b55c57f4c84c305c171c1a7729c9df5e3c46914b396ee3705", func := "loop.example/g00467/laws.FnExactStepsLeft", spec := "fnExactStepsLeft", unfollowed := true, recurses := true, apart := false }
def FnExactStepsLeftSaid : Prop := fnExactStepsLeftRow.holds Tryz.pinned (OpenSpec.ofChange fnExactStepsLeftSpec)

/-- ITS FALSE NEIGHBOUR: 'it returns false'. Refute it at one input. -/
def fnExactStepsLeftWrong : ChangeSpec := { name := "fnExactStepsLeft", fn := fun _ => fun
  | [d] => { results := [.lit (.bool false)], args := [d] }
  | _ => none }
def FnExactStepsLeftWrongFalsely : Prop := fnExactStepsLeftRow.holds Tryz.pinned (OpenSpec.ofChange fnExactStepsLeftWrong)

/- THE SECOND FORM. 'bulk': how many values and letters a reading holds, each counted each time it is reached (what is shared counts as often as it is met; a slice's spare places count too). A statement '..UptoSaid' is the law's where the arguments, and the package variables that the reading takes, are together of bulk at most 1048576: NARROWER than '..Said'. Prove '..Said' where nothing that the law and all that it calls make is longer than what came in: it says more and counts as full. Else prove '..UptoSaid'. A law counts once. -/
mutual
def uptoBulk {H : Type} : DataW H → Nat
  | .lit (.string bytes) => bytes.length + 1
  | .lit _ => 1
  | .nil => 1
  | .ptr d => uptoBulk d + 1
  | .slice elems spare => uptoBulkAll elems + uptoBulkAll spare + 1
  | .agg parts => uptoBulkAll parts + 1
  | .iface _ d => uptoBulk d + 1
  | .map entries => uptoBulkEntries entries + 1
  | .held _ => 1
def uptoBulkAll {H : Type} : List (DataW H) → Nat
  | [] => 0
  | d :: r => uptoBulk d + uptoBulkAll r
def uptoBulkEntries {H : Type} : List (Lit × DataW H) → Nat
  | [] => 0
  | x :: r => uptoBulkEntry x + uptoBulkEntries r
def uptoBulkEntry {H : Type} : Lit × DataW H → Nat
  | (.string bytes, d) => bytes.length + uptoBulk d + 1
  | (_, d) => uptoBulk d + 1
 end
def uptoSmall : (H : Type) → List (DataW H) → Bool := fun _ ds => decide (uptoBulkAll ds ≤ 1048576)
def OpenSpec.upto (s : _root_.Go.ChangeSpec) : _root_.Go.OpenSpec := { _root_.Go.OpenSpec.ofChange s with cond := some uptoSmall }

/-- 'laws.FnExactPutPool', WHERE WHAT IT READS IS OF BULK AT MOST 1048576: true; the input reads as it did. -/
def fnExactPutPoolUptoRow : OpenClaim := { program := "ytmapoakbdgpamaagreat", sum := "4215efc75e29f95b55c57f4c84c305c171c1a7729c9df5e3c46914b396ee3705", func := "loop.example/g00467/laws.FnExactPutPool", spec := "fnExactPutPool", unfollowed := true, recurses := true, apart := false, narrowed := true }
def FnExactPutPoolUptoSaid : Prop := fnExactPutPoolUptoRow.holds Tryz.pinned (OpenSpec.upto fnExactPutPoolSpec)

/-- 'laws.FnExactBestOf', WHERE WHAT IT READS IS OF BULK AT MOST 1048576: true; the input reads as it did. -/
def fnExactBestOfUptoRow : OpenClaim := { program := "ytmapoakbdgpamaagreat", sum := "4215efc75e29f95b55c57f4c84c305c171c1a7729c9df5e3c46914b396ee3705", func := "loop.example/g00467/laws.FnExactBestOf", spec := "fnExactBestOf", unfollowed := true, recurses := true, apart := false, narrowed := true }
def FnExactBestOfUptoSaid : Prop := fnExactBestOfUptoRow.holds Tryz.pinned (OpenSpec.upto fnExactBestOfSpec)

/-- 'laws.FnExactGetPool', WHERE WHAT IT READS IS OF BULK AT MOST 1048576: true; the input reads as it did. -/
def fnExactGetPoolUptoRow : OpenClaim := { program := "ytmapoakbdgpamaagreat", sum := "4215efc75e29f95b55c57f4c84c305c171c1a7729c9df5e3c46914b396ee3705", func := "loop.example/g00467/laws.FnExactGetPool", spec := "fnExactGetPool", unfollowed := true, recurses := true, apart := false, narrowed := true }
def FnExactGetPoolUptoSaid : Prop := fnExactGetPoolUptoRow.holds Tryz.pinned (OpenSpec.upto fnExactGetPoolSpec)

/-- 'laws.FnExactFormat', WHERE WHAT IT READS IS OF BULK AT MOST 1048576: true; the input reads as it did. -/
def fnExactFormatUptoRow : OpenClaim := { program := "ytmapoakbdgpamaagreat", sum := "4215efc75e29f95b55c57f4c84c305c171c1a7729c9df5e3c46914b396ee3705", func := "loop.example/g00467/laws.FnExactFormat", spec := "fnExactFormat", unfollowed := true, recurses := true, apart := false, narrowed := true }
def FnExactFormatUptoSaid : Prop := fnExactFormatUptoRow.holds Tryz.pinned (OpenSpec.upto fnExactFormatSpec)

/-- 'laws.FnExactSync', WHERE WHAT IT READS IS OF BULK AT MOST 1048576: true; the input reads as it did. -/
def fnExactSyncUptoRow : OpenClaim := { program := "ytmapoakbdgpamaagreat", sum := "4215efc75e29f95b55c57f4c84c305c171c1a7729c9df5e3c46914b396ee3705", func := "loop.example/g00467/laws.FnExactSync", spec := "fnExactSync", unfollowed := true, recurses := true, apart := false, narrowed := true }
def FnExactSyncUptoSaid : Prop := fnExactSyncUptoRow.holds Tryz.pinned (OpenSpec.upto fnExactSyncSpec)

/-- 'laws.FnExactCheckpoint', WHERE WHAT IT READS IS OF BULK AT MOST 1048576: true; the input reads as it did. -/
def fnExactCheckpointUptoRow : OpenClaim := { program := "ytmapoakbdgpamaagreat", sum := "4215efc75e29f95b55c57f4c84c305c171c1a7729c9df5e3c46914b396ee3705", func := "loop.example/g00467/laws.FnExactCheckpoint", spec := "fnExactCheckpoint", unfollowed := true, recurses := true, apart := false, narrowed := true }
def FnExactCheckpointUptoSaid : Prop := fnExactCheckpointUptoRow.holds Tryz.pinned (OpenSpec.upto fnExactCheckpointSpec)

/-- 'laws.FnExactStepsLeft', WHERE WHAT IT READS IS OF BULK AT MOST 1048576: true; the input reads as it did. -/
def fnExactStepsLeftUptoRow : OpenClaim := { program := "ytmapoakbdgpamaagreat", sum := "4215efc75e29f95b55c57f4c84c305c171c1a7729c9df5e3c46914b396ee3705", func := "loop.example/g00467/laws.FnExactStepsLeft", spec := "fnExactStepsLeft", unfollowed := true, recurses := true, apart := false, narrowed := true }
def FnExactStepsLeftUptoSaid : Prop := fnExactStepsLeftUptoRow.holds Tryz.pinned (OpenSpec.upto fnExactStepsLeftSpec)

end Rows
end Go.Proofs.YtmapoakbdgpamaaGreat
