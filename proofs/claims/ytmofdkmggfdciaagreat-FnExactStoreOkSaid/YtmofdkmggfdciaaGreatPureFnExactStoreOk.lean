/- FnExactStoreOk: the law's plain side: what the evaluator's functions compute is true. No condition. -/
import Derived.Test.YtmofdkmggfdciaaGreatPStore
namespace Go.Proofs.YtmofdkmggfdciaaGreat.Pure
open Go.Proofs.YtmofdkmggfdciaaGreat.R Go.Proofs.YtmofdkmggfdciaaGreat.XO
theorem FnExactStoreOk : ∀ x : List E_s_u8 × List E_LWr × Int × Bool × List E_i64 × List E_LNode × List E_LAge × List E_LCell × List E_LVol × Int × Int × Int × Int, okE [(.sl 56 ts_s_u8), (.sl 173 ts_LWr), (.int .i64), .bool, (.sl 3 ts_i64), (.sl 205 ts_LNode), (.sl 158 ts_LAge), (.sl 160 ts_LCell), (.sl 150 ts_LVol), (.int .i64), (.int .i64), (.int .i64), (.int .i64)] x → F_laws_FnExactStoreOk x = some true := by
  intro x ok
  obtain ⟨s, c, u, b, x1, x2, x3, x4, x5, z, a, n, m⟩ := x
  obtain ⟨oks, okc, _, _, ok1, ok2, ok3, ok4, ok5, _⟩ := ok
  refine Pl.law_StoreOk s c u b x1 x2 x3 x4 x5 z a n m oks.1 (fun v hv => (oks.2 v hv).1) okc.1 (fun v hv => (okc.2 v hv).2.1) ok1.1 ok2.1 (fun a ha => ⟨(ok2.2 a ha).1, fun b hb => ((ok2.2 a ha).2 b hb).1⟩) ok3.1 ok4.1 ok5.1 (fun v hv => (ok5.2 v hv).1)
end Go.Proofs.YtmofdkmggfdciaaGreat.Pure
