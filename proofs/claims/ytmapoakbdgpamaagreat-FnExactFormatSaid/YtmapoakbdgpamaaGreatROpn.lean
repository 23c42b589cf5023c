/- Arguments that read as data open to plain values. Conditions: the types lie as the context says. -/
import Derived.Test.YtmapoakbdgpamaaGreatRTab
import Derived.Deep.Slices
import Derived.ChangeArms
import Derived.ChangeShapes
import Derived.WideShapes
set_option linter.all false
namespace Go.Proofs.YtmapoakbdgpamaaGreat.R
open Go.RowKit
variable {P : Program} {C : Ctx}
mutual
def okT : (t : Ty) → El t → Prop
 | .int k, n => (Lit.int k n).wf = true
 | .bool, _ => True
 | .str, s => ByteArray.size s ≤ maxLen
 | .sl _ ts, xs => List.length xs ≤ maxLen ∧ ∀ x ∈ (show List (yE ts) from xs), okE ts x
def okE : (ts : List Ty) → yE ts → Prop
 | [], _ => True
 | t :: [], x => okT t x
 | t :: u :: r, x => okT t x.1 ∧ okE (u :: r) x.2
end
end Go.Proofs.YtmapoakbdgpamaaGreat.R
