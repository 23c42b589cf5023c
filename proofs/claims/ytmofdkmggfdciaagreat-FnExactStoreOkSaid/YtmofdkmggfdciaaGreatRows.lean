/-
  No cell of these rows narrows 'for every input' (looked for: loops, veiled, ifaces, maps, wideKeys, modest, calm, conditions, laid).
  DERIVED. THE GIVEN ROWS OF THIS SEAT. 6 by the template 'for every input the law returns true; each argument reads behind the call as it read before'; 0 by the template 'total and deterministic' (their statements: YtmofdkmggfdciaaGreatTotals.lean).
  GIVEN WITH THE SEED: the statements are not yours to turn. If you find one false, say at which input.
  Laid BY PROGRAM, IN A SANDBOX (cutbox-rows.mjs): the forced cells as the released guide's own fill.sh prints them over the translation 47e4394f5de2e4b8… (all of the seat's roots in one cut). By AI agents, Wed Nov 11 2026. No macro, syntax, notation, axiom, sorry.
-/
import Derived.Test.YtmofdkmggfdciaaGreatChecked
import GoSem.Claim
import GoSem.ClaimJoined
import GoSem.ClaimMapViews
import Derived.JoinedTies
import Derived.KernelRfl
namespace Go.Proofs.YtmofdkmggfdciaaGreat
/- THE CELL 'sum', in the pinned program and in every row, IS THE sha256 OF THE DUMP (.gsa) THAT YtmofdkmggfdciaaGreatProg.lean LOADS. Nothing in Lean hashes anything: it is a label: what it is worth is what the hold of that sum in a sandbox is worth. -/
noncomputable def Tryz.pinned : Pinned := { name := "ytmofdkmggfdciaagreat", sum := "47e4394f5de2e4b8e70e1c109f814a82ed9d60867e406e4a4af6aab6f4fe619f", checked := Tryz.checked }
namespace Rows
def none {H : Type} : Left H := { results := [], args := [] }

/-- 'laws.FnExactStoreOk': WHATEVER THE INPUT: true; the input reads as it did. -/
def fnExactStoreOkSpec : ChangeSpec := { name := "fnExactStoreOk", fn := fun _ => fun
  | [d] => { results := [.lit (.bool true)], args := [d] }
  | _ => none }
def fnExactStoreOkRow : OpenClaim := { program := "ytmofdkmggfdciaagreat", sum := "47e4394f5de2e4b8e70e1c109f814a82ed9d60867e406e4a4af6aab6f4fe619f", func := "loop.example/g00467/laws.FnExactStoreOk", spec := "fnExactStoreOk", unfollowed := true, recurses := true, apart := false }
def FnExactStoreOkSaid : Prop := fnExactStoreOkRow.holds Tryz.pinned (OpenSpec.ofChange fnExactStoreOkSpec)

/-- ITS FALSE NEIGHBOUR: 'it returns false'. Refute it at one input. -/
def fnExactStoreOkWrong : ChangeSpec := { name := "fnExactStoreOk", fn := fun _ => fun
  | [d] => { results := [.lit (.bool false)], args := [d] }
  | _ => none }
def FnExactStoreOkWrongFalsely : Prop := fnExactStoreOkRow.holds Tryz.pinned (OpenSpec.ofChange fnExactStoreOkWrong)

/-- 'laws.FnExactPutPool': WHATEVER THE INPUT: true; the input reads as it did. -/
def fnExactPutPoolSpec : ChangeSpec := { name := "fnExactPutPool", fn := fun _ => fun
  | [d] => { results := [.lit (.bool true)], args := [d] }
  | _ => none }
def fnExactPutPoolRow : OpenClaim := { program := "ytmofdkmggfdciaagreat", sum := "47e4394f5de2e4b8e70e1c109f814a82ed9d60867e406e4a4af6aab6f4fe619f", func := "loop.example/g00467/laws.FnExactPutPool", spec := "fnExactPutPool", unfollowed := true, recurses := true, apart := false }
def FnExactPutPoolSaid : Prop := fnExactPutPoolRow.holds Tryz.pinned (OpenSpec.ofChange fnExactPutPoolSpec)

/-- ITS FALSE NEIGHBOUR: 'it returns false'. Refute it at one input. -/
def fnExactPutPoolWrong : ChangeSpec := { name := "fnExactPutPool", fn := fun _ => fun
  | [d] => { results := [.lit (.bool false)], args := [d] }
  | _ => none }
def FnExactPutPoolWrongFalsely : Prop := fnExactPutPoolRow.holds Tryz.pinned (OpenSpec.ofChange fnExactPutPoolWrong)

/-- 'laws.FnExactBestOf': WHATEVER THE INPUT: true; the input reads as it did. -/
def fnExactBestOfSpec : ChangeSpec := { name := "fnExactBestOf", fn := fun _ => fun
  | [d] => { results := [.lit (.bool true)], args := [d] }
  | _ => none }
def fnExactBestOfRow : OpenClaim := { program := "ytmofdkmggfdciaagreat", sum := "47e4394f5de2e4b8e70e1c109f814a82ed9d60867e406e4a4af6aab6f4fe619f", func := "loop.example/g00467/laws.FnExactBestOf", spec := "fnExactBestOf", unfollowed := true, recurses := true, apart := false }
def FnExactBestOfSaid : Prop := fnExactBestOfRow.holds Tryz.pinned (OpenSpec.ofChange fnExactBestOfSpec)

/-- ITS FALSE NEIGHBOUR: 'it returns false'. Refute it at one input. -/
def fnExactBestOfWrong : ChangeSpec := { name := "fnExactBestOf", fn := fun _ => fun
  | [d] => { results := [.lit (.bool false)], args := [d] }
  | _ => none }
def FnExactBestOfWrongFalsely : Prop := fnExactBestOfRow.holds Tryz.pinned (OpenSpec.ofChange fnExactBestOfWrong)

/-- 'laws.FnExactGetPool': WHATEVER THE INPUT: true; the input reads as it did. -/
def fnExactGetPoolSpec : ChangeSpec := { name := "fnExactGetPool", fn := fun _ => fun
  | [d] => { results := [.lit (.bool true)], args := [d] }
  | _ => none }
def fnExactGetPoolRow : OpenClaim := { program := "ytmofdkmggfdciaagreat", sum := "47e4394f5de2e4b8e70e1c109f814a82ed9d60867e406e4a4af6aab6f4fe619f", func := "loop.example/g00467/laws.FnExactGetPool", spec := "fnExactGetPool", unfollowed := true, recurses := true, apart := false }
def FnExactGetPoolSaid : Prop := fnExactGetPoolRow.holds Tryz.pinned (OpenSpec.ofChange fnExactGetPoolSpec)

/-- ITS FALSE NEIGHBOUR: 'it returns false'. Refute it at one input. -/
def fnExactGetPoolWrong : ChangeSpec := { name := "fnExactGetPool", fn := fun _ => fun
  | [d] => { results := [.lit (.bool false)], args := [d] }
  | _ => none }
def FnExactGetPoolWrongFalsely : Prop := fnExactGetPoolRow.holds Tryz.pinned (OpenSpec.ofChange fnExactGetPoolWrong)

/-- 'laws.FnExactCalmOk': WHATEVER THE INPUT: true; the input reads as it did. -/
def fnExactCalmOkSpec : ChangeSpec := { name := "fnExactCalmOk", fn := fun _ => fun
  | [d] => { results := [.lit (.bool true)], args := [d] }
  | _ => none }
def fnExactCalmOkRow : OpenClaim := { program := "ytmofdkmggfdciaagreat", sum := "47e4394f5de2e4b8e70e1c109f814a82ed9d60867e406e4a4af6aab6f4fe619f", func := "loop.example/g00467/laws.FnExactCalmOk", spec := "fnExactCalmOk", unfollowed := true, recurses := true, apart := false }
def FnExactCalmOkSaid : Prop := fnExactCalmOkRow.holds Tryz.pinned (OpenSpec.ofChange fnExactCalmOkSpec)

/-- ITS FALSE NEIGHBOUR: 'it returns false'. Refute it at one input. -/
def fnExactCalmOkWrong : ChangeSpec := { name := "fnExactCalmOk", fn := fun _ => fun
  | [d] => { results := [.lit (.bool false)], args := [d] }
  | _ => none }
def FnExactCalmOkWrongFalsely : Prop := fnExactCalmOkRow.holds Tryz.pinned (OpenSpec.ofChange fnExactCalmOkWrong)

/-- 'laws.FnExactStepsLeft': WHATEVER THE INPUT: true; the input reads as it did. -/
def fnExactStepsLeftSpec : ChangeSpec := { name := "fnExactStepsLeft", fn := fun _ => fun
  | [d] => { results := [.lit (.bool true)], args := [d] }
  | _ => none }
def fnExactStepsLeftRow : OpenClaim := { program := "ytmofdkmggfdciaagreat", sum := "47e4394f5de2e4b8e70e1c109f814a82ed9d60867e406e4a4af6aab6f4fe619f", func := "loop.example/g00467/laws.FnExactStepsLeft", spec := "fnExactStepsLeft", unfollowed := true, recurses := true, apart := false }
def FnExactStepsLeftSaid : Prop := fnExactStepsLeftRow.holds Tryz.pinned (OpenSpec.ofChange fnExactStepsLeftSpec)

/-- ITS FALSE NEIGHBOUR: 'it returns false'. Refute it at one input. -/
def fnExactStepsLeftWrong : ChangeSpec := { name := "fnExactStepsLeft", fn := fun _ => fun
  | [d] => { results := [.lit (.bool false)], args := [d] }
  | _ => none }
def FnExactStepsLeftWrongFalsely : Prop := fnExactStepsLeftRow.holds Tryz.pinned (OpenSpec.ofChange fnExactStepsLeftWrong)

/- THE SECOND FORM. 'bulk': how many values and letters a reading holds, each counted each time it is reached (what is shared counts as often as it is met; a slice's spare places count too). A statement '..UptoSaid' is the law's where the arguments, and the package variables that the reading takes, are together of bulk at most 1048576: NARROWER than '..Said'. Prove '..Said' where nothing that the law and all that it calls make is longer than what came in: it says more and counts as full. Else prove '..UptoSaid'. A law counts once. -/
mutual
def uptoBulk {H : Type} : DataW H → Nat
  | .lit (.string bytes) => bytes.length + 1
  | .lit _ => 1
  | .nil => 1
  | .ptr d => uptoBulk d + 1
  | .slice elems spare => uptoBulkAll elems + uptoBulkAll spare + 1
  | .agg parts => uptoBulkAll parts + 1
  | .iface _ d => uptoBulk d + 1
  | .map entries => uptoBulkEntries entries + 1
  | .held _ => 1
def uptoBulkAll {H : Type} : List (DataW H) → Nat
  | [] => 0
  | d :: r => uptoBulk d + uptoBulkAll r
def uptoBulkEntries {H : Type} : List (Lit × DataW H) → Nat
  | [] => 0
  | x :: r => uptoBulkEntry x + uptoBulkEntries r
def uptoBulkEntry {H : Type} : Lit × DataW H → Nat
  | (.string bytes, d) => bytes.length + uptoBulk d + 1
  | (_, d) => uptoBulk d + 1
 end
def uptoSmall : (H : Type) → List (DataW H) → Bool := fun _ ds => decide (uptoBulkAll ds ≤ 1048576)
def OpenSpec.upto (s : _root_.Go.ChangeSpec) : _root_.Go.OpenSpec := { _root_.Go.OpenSpec.ofChange s with cond := some uptoSmall }

/-- 'laws.FnExactStoreOk', WHERE WHAT IT READS IS OF BULK AT MOST 1048576: true; the input reads as it did. -/
def fnExactStoreOkUptoRow : OpenClaim := { program := "ytmofdkmggfdciaagreat", sum := "47e4394f5de2e4b8e70e1c109f814a82ed9d60867e406e4a4af6aab6f4fe619f", func := "loop.example/g00467/laws.FnExactStoreOk", spec := "fnExactStoreOk", unfollowed := true, recurses := true, apart := false, narrowed := true }
def FnExactStoreOkUptoSaid : Prop := fnExactStoreOkUptoRow.holds Tryz.pinned (OpenSpec.upto fnExactStoreOkSpec)

/-- 'laws.FnExactPutPool', WHERE WHAT IT READS IS OF BULK AT MOST 1048576: true; the input reads as it did. -/
def fnExactPutPoolUptoRow : OpenClaim := { program := "ytmofdkmggfdciaagreat", sum := "47e4394f5de2e4b8e70e1c109f814a82ed9d60867e406e4a4af6aab6f4fe619f", func := "loop.example/g00467/laws.FnExactPutPool", spec := "fnExactPutPool", unfollowed := true, recurses := true, apart := false, narrowed := true }
def FnExactPutPoolUptoSaid : Prop := fnExactPutPoolUptoRow.holds Tryz.pinned (OpenSpec.upto fnExactPutPoolSpec)

/-- 'laws.FnExactBestOf', WHERE WHAT IT READS IS OF BULK AT MOST 1048576: true; the input reads as it did. -/
def fnExactBestOfUptoRow : OpenClaim := { program := "ytmofdkmggfdciaagreat", sum := "47e4394f5de2e4b8e70e1c109f814a82ed9d60867e406e4a4af6aab6f4fe619f", func := "loop.example/g00467/laws.FnExactBestOf", spec := "fnExactBestOf", unfollowed := true, recurses := true, apart := false, narrowed := true }
def FnExactBestOfUptoSaid : Prop := fnExactBestOfUptoRow.holds Tryz.pinned (OpenSpec.upto fnExactBestOfSpec)

/-- 'laws.FnExactGetPool', WHERE WHAT IT READS IS OF BULK AT MOST 1048576: true; the input reads as it did. -/
def fnExactGetPoolUptoRow : OpenClaim := { program := "ytmofdkmggfdciaagreat", sum := "47e4394f5de2e4b8e70e1c109f814a82ed9d60867e406e4a4af6aab6f4fe619f", func := "loop.example/g00467/laws.FnExactGetPool", spec := "fnExactGetPool", unfollowed := true, recurses := true, apart := false, narrowed := true }
def FnExactGetPoolUptoSaid : Prop := fnExactGetPoolUptoRow.holds Tryz.pinned (OpenSpec.upto fnExactGetPoolSpec)

/-- 'laws.FnExactCalmOk', WHERE WHAT IT READS IS OF BULK AT MOST 1048576: true; the input reads as it did. -/
def fnExactCalmOkUptoRow : OpenClaim := { program := "ytmofdkmggfdciaagreat", sum := "47e4394f5de2e4b8e70e1c109f814a82ed9d60867e406e4a4af6aab6f4fe619f", func := "loop.example/g00467/laws.FnExactCalmOk", spec := "fnExactCalmOk", unfollowed := true, recurses := true, apart := false, narrowed := true }
def FnExactCalmOkUptoSaid : Prop := fnExactCalmOkUptoRow.holds Tryz.pinned (OpenSpec.upto fnExactCalmOkSpec)

/-- 'laws.FnExactStepsLeft', WHERE WHAT IT READS IS OF BULK AT MOST 1048576: true; the input reads as it did. -/
def fnExactStepsLeftUptoRow : OpenClaim := { program := "ytmofdkmggfdciaagreat", sum := "47e4394f5de2e4b8e70e1c109f814a82ed9d60867e406e4a4af6aab6f4fe619f", func := "loop.example/g00467/laws.FnExactStepsLeft", spec := "fnExactStepsLeft", unfollowed := true, recurses := true, apart := false, narrowed := true }
def FnExactStepsLeftUptoSaid : Prop := fnExactStepsLeftUptoRow.holds Tryz.pinned (OpenSpec.upto fnExactStepsLeftSpec)

end Rows
end Go.Proofs.YtmofdkmggfdciaaGreat
