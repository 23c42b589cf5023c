/- FnTidiesBent: the law's plain side: what the evaluator's functions compute is true. No condition. -/
import Derived.Test.YthgdjjdigalckaaGreatPTidyBent
namespace Go.Proofs.YthgdjjdigalckaaGreat.Pure
open Go.Proofs.YthgdjjdigalckaaGreat.R Go.Proofs.YthgdjjdigalckaaGreat.XT
theorem FnTidiesBent : ∀ x : List vu, okE [(.sl 5 Ym)] x → zN x = some true := by
  intro x _
  exact Pl.law_TidyBent x
end Go.Proofs.YthgdjjdigalckaaGreat.Pure
