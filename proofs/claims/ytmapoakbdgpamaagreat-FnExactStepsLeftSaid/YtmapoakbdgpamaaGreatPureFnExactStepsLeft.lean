/- FnExactStepsLeft: the law's plain side: what the evaluator's functions compute is true. No condition. -/
import Derived.Test.YtmapoakbdgpamaaGreatPSteps
namespace Go.Proofs.YtmapoakbdgpamaaGreat.Pure
open Go.Proofs.YtmapoakbdgpamaaGreat.R Go.Proofs.YtmapoakbdgpamaaGreat.XP
theorem FnExactStepsLeft : ∀ x : List yh × List Ya × List kZ × List Jh × List Jn × Int, okE [(.sl 3 yd), (.sl 216 Yl), (.sl 166 wq), (.sl 168 jl), (.sl 158 Ji), (.int .i64)] x → zc x = some true := by
  intro x ok
  obtain ⟨x1, x2, x3, x4, x5, z⟩ := x
  obtain ⟨ok1, ok2, ok3, ok4, ok5, _⟩ := ok
  refine Pl.law_StepsLeft x1 x2 x3 x4 x5 z ok1.1 ok2.1 (fun a ha => ⟨(ok2.2 a ha).1, fun b hb => ((ok2.2 a ha).2 b hb).1⟩) ok3.1 ok4.1 ok5.1 (fun v hv => (ok5.2 v hv).1)
end Go.Proofs.YtmapoakbdgpamaaGreat.Pure
