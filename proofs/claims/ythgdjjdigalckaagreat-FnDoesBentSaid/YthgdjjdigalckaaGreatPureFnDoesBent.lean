/- FnDoesBent: the law's plain side: what the evaluator's functions compute is true. No condition. -/
import Derived.Test.YthgdjjdigalckaaGreatPDo4
namespace Go.Proofs.YthgdjjdigalckaaGreat.Pure
open Go.Proofs.YthgdjjdigalckaaGreat.R Go.Proofs.YthgdjjdigalckaaGreat.XB
theorem FnDoesBent : ∀ x : List Vn, okE [(.sl 5 Yt)] x → Yg x = some true := by
  intro x _
  exact Pl.law_DoesBent x
end Go.Proofs.YthgdjjdigalckaaGreat.Pure
