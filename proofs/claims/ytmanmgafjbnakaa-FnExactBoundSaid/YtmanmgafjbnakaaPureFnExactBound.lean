/- FnExactBound: the law's plain side: what the evaluator's functions compute is true. No condition. -/
import Derived.Test.YtmanmgafjbnakaaPBound
namespace Go.Proofs.Ytmanmgafjbnakaa.Pure
open Go.Proofs.Ytmanmgafjbnakaa.R Go.Proofs.Ytmanmgafjbnakaa.XB
theorem FnExactBound : ∀ x : List E_i64 × List E_LNode × List E_LAge × List E_LCell × List E_LVol × Int, okE [(.sl 3 ts_i64), (.sl 207 ts_LNode), (.sl 187 ts_LAge), (.sl 191 ts_LCell), (.sl 177 ts_LVol), (.int .i64)] x → F_laws_FnExactBound x = some true := by
  intro x ok
  obtain ⟨x1, x2, x3, x4, x5, z⟩ := x
  obtain ⟨ok1, ok2, ok3, ok4, ok5, _⟩ := ok
  refine Pl.law_Bound x1 x2 x3 x4 x5 z ok1.1 ok2.1 (fun a ha => ⟨(ok2.2 a ha).1, fun b hb => ((ok2.2 a ha).2 b hb).1⟩) ok3.1 ok4.1 ok5.1 (fun v hv => (ok5.2 v hv).1)
end Go.Proofs.Ytmanmgafjbnakaa.Pure
