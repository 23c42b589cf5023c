/- FnExactPutEnt: the law's plain side: what the evaluator's functions compute is true. No condition. -/
import Derived.Test.YtmanmgafjbnakaaPMarkB
namespace Go.Proofs.Ytmanmgafjbnakaa.Pure
open Go.Proofs.Ytmanmgafjbnakaa.R Go.Proofs.Ytmanmgafjbnakaa.XE
theorem FnExactPutEnt : ∀ x : Int × Int × ByteArray × ByteArray × Int × Int, okE [(.int .i64), (.int .i64), .str, .str, (.int .i64), (.int .i64)] x → F_laws_FnExactPutEnt x = some true := by
  rintro ⟨q, k, n, t, a, b⟩ ok
  exact Pl.law_PutEnt q k n t a b ok.2.2.1 ok.2.2.2.1
end Go.Proofs.Ytmanmgafjbnakaa.Pure
