/- FnExactReadImage: the law's plain side: what the evaluator's functions compute is true. No condition. -/
import Derived.Test.YtibkaphfhdmjlaaPRdImg
namespace Go.Proofs.Ytibkaphfhdmjlaa.Pure
open Go.Proofs.Ytibkaphfhdmjlaa.R Go.Proofs.Ytibkaphfhdmjlaa.XK
theorem byteOk (l : List E_u8) (h : ∀ y ∈ l, okE [.int .u8] y) : Pl.isBytes l := by
  intro y hy
  have h1 := h y hy
  have h2 : (Lit.int .u8 y).wf = true := h1
  have h3 : (decide ((0 : Int) ≤ y) && decide (y ≤ 255)) = true := h2
  simp only [Bool.and_eq_true, decide_eq_true_eq] at h3
  exact ⟨h3.1, by omega⟩
theorem FnExactReadImage : ∀ x : List E_s_u8 × List E_LWr × Int × Bool × Int × Int × Int × Int × Int, okE [(.sl 29 ts_s_u8), (.sl 63 ts_LWr), (.int .i64), .bool, (.int .i64), (.int .i64), (.int .i64), (.int .i64), (.int .i64)] x → F_laws_FnExactReadImage x = some true := by
  rintro ⟨s, c, z, b, g, sd, n, m, q⟩ ok
  obtain ⟨⟨s1, s2⟩, ⟨c1, c2⟩, _⟩ := ok
  exact Pl.law_ReadImage s c z b g sd n m q s1 (fun a ha => (s2 a ha).1) c1 (fun a ha => (c2 a ha).2.1) (fun a ha => byteOk a (s2 a ha).2) (fun a ha => byteOk a.2 (c2 a ha).2.2)
end Go.Proofs.Ytibkaphfhdmjlaa.Pure
