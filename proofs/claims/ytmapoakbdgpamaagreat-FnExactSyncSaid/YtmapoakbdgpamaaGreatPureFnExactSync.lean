/- FnExactSync: the law's plain side: what the evaluator's functions compute is true. No condition. -/
import Derived.Test.YtmapoakbdgpamaaGreatPSync
namespace Go.Proofs.YtmapoakbdgpamaaGreat.Pure
open Go.Proofs.YtmapoakbdgpamaaGreat.R Go.Proofs.YtmapoakbdgpamaaGreat.XM
theorem FnExactSync : ∀ x : List E_s_u8 × List E_LWr × Int × Bool × List E_i64 × List E_LNode × List E_LAge × List E_LCell × List E_LVol × Int × Int × Int × Int, okE [(.sl 32 ts_s_u8), (.sl 181 ts_LWr), (.int .i64), .bool, (.sl 3 ts_i64), (.sl 216 ts_LNode), (.sl 166 ts_LAge), (.sl 168 ts_LCell), (.sl 158 ts_LVol), (.int .i64), (.int .i64), (.int .i64), (.int .i64)] x → F_laws_FnExactSync x = some true := by
  intro x ok
  obtain ⟨s, c, u, b, x1, x2, x3, x4, x5, z, a, n, m⟩ := x
  obtain ⟨oks, okc, _, _, ok1, ok2, ok3, ok4, ok5, _⟩ := ok
  exact Pl.law_Sync s c u b x1 x2 x3 x4 x5 z a n m oks.1 (fun v hv => (oks.2 v hv).1) okc.1 (fun v hv => (okc.2 v hv).2.1) ok1.1 ok2.1 (fun a ha => ⟨(ok2.2 a ha).1, fun b hb => ((ok2.2 a ha).2 b hb).1⟩) ok3.1 ok4.1 ok5.1 (fun v hv => (ok5.2 v hv).1)
end Go.Proofs.YtmapoakbdgpamaaGreat.Pure
