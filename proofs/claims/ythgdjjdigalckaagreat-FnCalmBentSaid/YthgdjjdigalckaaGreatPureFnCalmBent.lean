/- FnCalmBent: the law's plain side: what the evaluator's functions compute is true. No condition. -/
import Derived.Test.YthgdjjdigalckaaGreatPCalmBent
namespace Go.Proofs.YthgdjjdigalckaaGreat.Pure
open Go.Proofs.YthgdjjdigalckaaGreat.R Go.Proofs.YthgdjjdigalckaaGreat.XC
theorem FnCalmBent : ∀ x : List Vh, okE [(.sl 5 Yo)] x → Y7 x = some true := by
  intro x _
  exact Pl.law_CalmBent x
end Go.Proofs.YthgdjjdigalckaaGreat.Pure
