/- FnExactFormat: the law's plain side: what the evaluator's functions compute is true. No condition. -/
import Derived.Test.YtmapoakbdgpamaaGreatPFormat
namespace Go.Proofs.YtmapoakbdgpamaaGreat.Pure
open Go.Proofs.YtmapoakbdgpamaaGreat.R Go.Proofs.YtmapoakbdgpamaaGreat.XN
theorem FnExactFormat : ∀ x : Unit, okE [] x → zk x = some true := fun _ _ => Pl.law_Format
end Go.Proofs.YtmapoakbdgpamaaGreat.Pure
