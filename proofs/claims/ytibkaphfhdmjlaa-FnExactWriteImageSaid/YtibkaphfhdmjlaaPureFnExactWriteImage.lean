/- FnExactWriteImage: the law's plain side: what the evaluator's functions compute is true. No condition. -/
import Derived.Test.YtibkaphfhdmjlaaPImg
namespace Go.Proofs.Ytibkaphfhdmjlaa.Pure
open Go.Proofs.Ytibkaphfhdmjlaa.R Go.Proofs.Ytibkaphfhdmjlaa.XJ
theorem FnExactWriteImage : ∀ x : List E_s_u8 × List E_LWr × Int × Bool × Int × List E_u8, okE [(.sl 29 ts_s_u8), (.sl 63 ts_LWr), (.int .i64), .bool, (.int .i64), (.sl 5 ts_u8)] x → F_laws_FnExactWriteImage x = some true := by
  rintro ⟨s, c, z, b, side, p⟩ ok
  obtain ⟨⟨s1, s2⟩, ⟨c1, c2⟩, _⟩ := ok
  exact Pl.law_WriteImage s c z b side p s1 (fun a ha => (s2 a ha).1) c1 (fun a ha => (c2 a ha).2.1)
end Go.Proofs.Ytibkaphfhdmjlaa.Pure
