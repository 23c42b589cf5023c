/-
  No cell of these rows narrows 'for every input' (looked for: loops, veiled, ifaces, maps, wideKeys, modest, calm, conditions, laid).
  DERIVED. THE GIVEN ROWS OF THIS SEAT. 4 by the template 'for every input the law returns true; each argument reads behind the call as it read before'; 0 by the template 'total and deterministic' (their statements: YtjllpipmaejeoaaGreatTotals.lean).
  GIVEN WITH THE SEED: the statements are not yours to turn. If you find one false, say at which input.
  Laid BY PROGRAM, IN A SANDBOX (cutbox-rows.mjs): the forced cells as the released guide's own fill.sh prints them over the translation b2ec82fde1b4377c… (all of the seat's roots in one cut). By AI agents, Wed Nov 11 2026. No macro, syntax, notation, axiom, sorry.
-/
import Derived.Test.YtjllpipmaejeoaaGreatChecked
import GoSem.Claim
import GoSem.ClaimJoined
import GoSem.ClaimMapViews
import Derived.JoinedTies
import Derived.KernelRfl
namespace Go.Proofs.YtjllpipmaejeoaaGreat
/- THE CELL 'sum', in the pinned program and in every row, IS THE sha256 OF THE DUMP (.gsa) THAT YtjllpipmaejeoaaGreatProg.lean LOADS. Nothing in Lean hashes anything: it is a label: what it is worth is what the hold of that sum in a sandbox is worth. -/
noncomputable def Tryz.pinned : Pinned := { name := "ytjllpipmaejeoaagreat", sum := "b2ec82fde1b4377cbe0d3b488608f9de99536b063b0644895a6b4658cb2e2c7e", checked := Tryz.checked }
namespace Rows
def none {H : Type} : Left H := { results := [], args := [] }

/-- 'laws.FnReads': WHATEVER THE INPUT: true; the input reads as it did. -/
def fnReadsSpec : ChangeSpec := { name := "fnReads", fn := fun _ => fun
  | [d] => { results := [.lit (.bool true)], args := [d] }
  | _ => none }
def fnReadsRow : OpenClaim := { program := "ytjllpipmaejeoaagreat", sum := "b2ec82fde1b4377cbe0d3b488608f9de99536b063b0644895a6b4658cb2e2c7e", func := "loop.example/g00467/laws.FnReads", spec := "fnReads", unfollowed := true, recurses := true, apart := false }
def FnReadsSaid : Prop := fnReadsRow.holds Tryz.pinned (OpenSpec.ofChange fnReadsSpec)

/-- ITS FALSE NEIGHBOUR: 'it returns false'. Refute it at one input. -/
def fnReadsWrong : ChangeSpec := { name := "fnReads", fn := fun _ => fun
  | [d] => { results := [.lit (.bool false)], args := [d] }
  | _ => none }
def FnReadsWrongFalsely : Prop := fnReadsRow.holds Tryz.pinned (OpenSpec.ofChange fnReadsWrong)

/-- 'laws.FnTidies': WHATEVER THE INPUT: true; the input reads as it did. -/
def fnTidiesSpec : ChangeSpec := { name := "fnTidies", fn := fun _ => fun
  | [d] => { results := [.lit (.bool true)], args := [d] }
  | _ => none }
def fnTidiesRow : OpenClaim := { program := "ytjllpipmaejeoaagreat", sum := "b2ec82fde1b4377cbe0d3b488608f9de99536b063b0644895a6b4658cb2e2c7e", func := "loop.example/g00467/laws.FnTidies", spec := "fnTidies", unfollowed := true, recurses := true, apart := false }
def FnTidiesSaid : Prop := fnTidiesRow.holds Tryz.pinned (OpenSpec.ofChange fnTidiesSpec)

/-- ITS FALSE NEIGHBOUR: 'it returns false'. Refute it at one input. -/
def fnTidiesWrong : ChangeSpec := { name := "fnTidies", fn := fun _ => fun
  | [d] => { results := [.lit (.bool false)], args := [d] }
  | _ => none }
def FnTidiesWrongFalsely : Prop := fnTidiesRow.holds Tryz.pinned (OpenSpec.ofChange fnTidiesWrong)

/-- 'laws.FnPrunes': WHATEVER THE INPUT: true; the input reads as it did. -/
def fnPrunesSpec : ChangeSpec := { name := "fnPrunes", fn := fun _ => fun
  | [d] => { results := [.lit (.bool true)], args := [d] }
  | _ => none }
def fnPrunesRow : OpenClaim := { program := "ytjllpipmaejeoaagreat", sum := "b2ec82fde1b4377cbe0d3b488608f9de99536b063b0644895a6b4658cb2e2c7e", func := "loop.example/g00467/laws.FnPrunes", spec := "fnPrunes", unfollowed := true, recurses := true, apart := false }
def FnPrunesSaid : Prop := fnPrunesRow.holds Tryz.pinned (OpenSpec.ofChange fnPrunesSpec)

/-- ITS FALSE NEIGHBOUR: 'it returns false'. Refute it at one input. -/
def fnPrunesWrong : ChangeSpec := { name := "fnPrunes", fn := fun _ => fun
  | [d] => { results := [.lit (.bool false)], args := [d] }
  | _ => none }
def FnPrunesWrongFalsely : Prop := fnPrunesRow.holds Tryz.pinned (OpenSpec.ofChange fnPrunesWrong)

/-- 'laws.FnCalm': WHATEVER THE INPUT: true; the input reads as it did. -/
def fnCalmSpec : ChangeSpec := { name := "fnCalm", fn := fun _ => fun
  | [d] => { results := [.lit (.bool true)], args := [d] }
  | _ => none }
def fnCalmRow : OpenClaim := { program := "ytjllpipmaejeoaagreat", sum := "b2ec82fde1b4377cbe0d3b488608f9de99536b063b0644895a6b4658cb2e2c7e", func := "loop.example/g00467/laws.FnCalm", spec := "fnCalm", unfollowed := true, recurses := true, apart := false }
def FnCalmSaid : Prop := fnCalmRow.holds Tryz.pinned (OpenSpec.ofChange fnCalmSpec)

/-- ITS FALSE NEIGHBOUR: 'it returns false'. Refute it at one input. -/
def fnCalmWrong : ChangeSpec := { name := "fnCalm", fn := fun _ => fun
  | [d] => { results := [.lit (.bool false)], args := [d] }
  | _ => none }
def FnCalmWrongFalsely : Prop := fnCalmRow.holds Tryz.pinned (OpenSpec.ofChange fnCalmWrong)

/- THE SECOND FORM. 'bulk': how many values and letters a reading holds, each counted each time it is reached (what is shared counts as often as it is met; a slice's spare places count too). A statement '..UptoSaid' is the law's where the arguments, and the package variables that the reading takes, are together of bulk at most 1048576: NARROWER than '..Said'. Prove '..Said' where nothing that the law and all that it calls make is longer than what came in: it says more and counts as full. Else prove '..UptoSaid'. A law counts once. -/
mutual
def uptoBulk {H : Type} : DataW H → Nat
  | .lit (.string bytes) => bytes.length + 1
  | .lit _ => 1
  | .nil => 1
  | .ptr d => uptoBulk d + 1
  | .slice elems spare => uptoBulkAll elems + uptoBulkAll spare + 1
  | .agg parts => uptoBulkAll parts + 1
  | .iface _ d => uptoBulk d + 1
  | .map entries => uptoBulkEntries entries + 1
  | .held _ => 1
def uptoBulkAll {H : Type} : List (DataW H) → Nat
  | [] => 0
  | d :: r => uptoBulk d + uptoBulkAll r
def uptoBulkEntries {H : Type} : List (Lit × DataW H) → Nat
  | [] => 0
  | x :: r => uptoBulkEntry x + uptoBulkEntries r
def uptoBulkEntry {H : Type} : Lit × DataW H → Nat
  | (.string bytes, d) => bytes.length + uptoBulk d + 1
  | (_, d) => uptoBulk d + 1
 end
def uptoSmall : (H : Type) → List (DataW H) → Bool := fun _ ds => decide (uptoBulkAll ds ≤ 1048576)
def OpenSpec.upto (s : _root_.Go.ChangeSpec) : _root_.Go.OpenSpec := { _root_.Go.OpenSpec.ofChange s with cond := some uptoSmall }

/-- 'laws.FnReads', WHERE WHAT IT READS IS OF BULK AT MOST 1048576: true; the input reads as it did. -/
def fnReadsUptoRow : OpenClaim := { program := "ytjllpipmaejeoaagreat", sum := "b2ec82fde1b4377cbe0d3b488608f9de99536b063b0644895a6b4658cb2e2c7e", func := "loop.example/g00467/laws.FnReads", spec := "fnReads", unfollowed := true, recurses := true, apart := false, narrowed := true }
def FnReadsUptoSaid : Prop := fnReadsUptoRow.holds Tryz.pinned (OpenSpec.upto fnReadsSpec)

/-- 'laws.FnTidies', WHERE WHAT IT READS IS OF BULK AT MOST 1048576: true; the input reads as it did. -/
def fnTidiesUptoRow : OpenClaim := { program := "ytjllpipmaejeoaagreat", sum := "b2ec82fde1b4377cbe0d3b488608f9de99536b063b0644895a6b4658cb2e2c7e", func := "loop.example/g00467/laws.FnTidies", spec := "fnTidies", unfollowed := true, recurses := true, apart := false, narrowed := true }
def FnTidiesUptoSaid : Prop := fnTidiesUptoRow.holds Tryz.pinned (OpenSpec.upto fnTidiesSpec)

/-- 'laws.FnPrunes', WHERE WHAT IT READS IS OF BULK AT MOST 1048576: true; the input reads as it did. -/
def fnPrunesUptoRow : OpenClaim := { program := "ytjllpipmaejeoaagreat", sum := "b2ec82fde1b4377cbe0d3b488608f9de99536b063b0644895a6b4658cb2e2c7e", func := "loop.example/g00467/laws.FnPrunes", spec := "fnPrunes", unfollowed := true, recurses := true, apart := false, narrowed := true }
def FnPrunesUptoSaid : Prop := fnPrunesUptoRow.holds Tryz.pinned (OpenSpec.upto fnPrunesSpec)

/-- 'laws.FnCalm', WHERE WHAT IT READS IS OF BULK AT MOST 1048576: true; the input reads as it did. -/
def fnCalmUptoRow : OpenClaim := { program := "ytjllpipmaejeoaagreat", sum := "b2ec82fde1b4377cbe0d3b488608f9de99536b063b0644895a6b4658cb2e2c7e", func := "loop.example/g00467/laws.FnCalm", spec := "fnCalm", unfollowed := true, recurses := true, apart := false, narrowed := true }
def FnCalmUptoSaid : Prop := fnCalmUptoRow.holds Tryz.pinned (OpenSpec.upto fnCalmSpec)

end Rows
end Go.Proofs.YtjllpipmaejeoaaGreat
