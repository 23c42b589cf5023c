/- FnExactBestOf: the law's plain side: what the evaluator's functions compute is true. No condition. -/
import Derived.Test.YtmapoakbdgpamaaGreatPBestOf
namespace Go.Proofs.YtmapoakbdgpamaaGreat.Pure
open Go.Proofs.YtmapoakbdgpamaaGreat.R Go.Proofs.YtmapoakbdgpamaaGreat.XL
theorem byteOk (l : List E_u8) (h : ∀ y ∈ l, okE [.int .u8] y) : Pl.isBytes l := by
  intro y hy
  have h1 := h y hy
  have h2 : (Lit.int .u8 y).wf = true := h1
  have h3 : (decide ((0 : Int) ≤ y) && decide (y ≤ 255)) = true := h2
  simp only [Bool.and_eq_true, decide_eq_true_eq] at h3
  exact ⟨h3.1, by omega⟩
theorem FnExactBestOf : ∀ x : List E_s_u8 × List E_LWr × Int × Bool, okE [(.sl 32 ts_s_u8), (.sl 181 ts_LWr), (.int .i64), .bool] x → F_laws_FnExactBestOf x = some true := by
  rintro ⟨s, c, z, b⟩ ok
  obtain ⟨⟨s1, s2⟩, ⟨c1, c2⟩, _⟩ := ok
  exact Pl.law_BestOf s c z b s1 (fun a ha => (s2 a ha).1) c1 (fun a ha => (c2 a ha).2.1) (fun a ha => byteOk a (s2 a ha).2) (fun a ha => byteOk a.2 (c2 a ha).2.2)
end Go.Proofs.YtmapoakbdgpamaaGreat.Pure
