/- FnExactPutPool: the law's plain side: what the evaluator's functions compute is true. No condition. -/
import Derived.Test.YtmapoakbdgpamaaGreatPMarkPool
namespace Go.Proofs.YtmapoakbdgpamaaGreat.Pure
open Go.Proofs.YtmapoakbdgpamaaGreat.R Go.Proofs.YtmapoakbdgpamaaGreat.XJ
theorem FnExactPutPool : ∀ x : List E_i64 × List E_LNode × List E_LAge × List E_LCell × List E_LVol × Int, okE [(.sl 3 ts_i64), (.sl 216 ts_LNode), (.sl 166 ts_LAge), (.sl 168 ts_LCell), (.sl 158 ts_LVol), (.int .i64)] x → F_laws_FnExactPutPool x = some true := by
  intro x ok
  obtain ⟨x1, x2, x3, x4, x5, z⟩ := x
  obtain ⟨ok1, ok2, ok3, ok4, ok5, _⟩ := ok
  exact Pl.law_PutPool x1 x2 x3 x4 x5 z ok1.1 ok2.1 (fun a ha => ⟨(ok2.2 a ha).1, fun b hb => ((ok2.2 a ha).2 b hb).1⟩) ok3.1 ok4.1 ok5.1 (fun v hv => (ok5.2 v hv).1)
end Go.Proofs.YtmapoakbdgpamaaGreat.Pure
