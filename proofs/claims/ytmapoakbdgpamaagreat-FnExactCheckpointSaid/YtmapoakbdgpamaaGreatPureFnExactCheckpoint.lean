/- FnExactCheckpoint: the law's plain side: what the evaluator's functions compute is true. No condition. -/
import Derived.Test.YtmapoakbdgpamaaGreatPChk
namespace Go.Proofs.YtmapoakbdgpamaaGreat.Pure
open Go.Proofs.YtmapoakbdgpamaaGreat.R Go.Proofs.YtmapoakbdgpamaaGreat.XQ
theorem FnExactCheckpoint : ∀ x : List y6 × List wK × Int × Bool × List yp × List zF × List WV × List je × List jw × Int × Int × Int × Int, okE [(.sl 32 yc), (.sl 181 wJ), (.int .i64), .bool, (.sl 3 ye), (.sl 216 zD), (.sl 166 jv), (.sl 168 Yz), (.sl 158 Zx), (.int .i64), (.int .i64), (.int .i64), (.int .i64)] x → yY x = some true := by
  intro x ok
  obtain ⟨s, c, u, b, x1, x2, x3, x4, x5, z, a, n, m⟩ := x
  obtain ⟨oks, okc, _, _, ok1, ok2, ok3, ok4, ok5, _⟩ := ok
  exact Pl.law_Checkpoint s c u b x1 x2 x3 x4 x5 z a n m oks.1 (fun v hv => (oks.2 v hv).1) okc.1 (fun v hv => (okc.2 v hv).2.1) ok1.1 ok2.1 (fun a ha => ⟨(ok2.2 a ha).1, fun b hb => ((ok2.2 a ha).2 b hb).1⟩) ok3.1 ok4.1 ok5.1 (fun v hv => (ok5.2 v hv).1)
end Go.Proofs.YtmapoakbdgpamaaGreat.Pure
