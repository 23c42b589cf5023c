/- FnSnaps: the law's plain side: what the evaluator's functions compute is true. No condition. -/
import Derived.Test.YtgediecndaheiaaGreatPSnaps
namespace Go.Proofs.YtgediecndaheiaaGreat.Pure
open Go.Proofs.YtgediecndaheiaaGreat.R Go.Proofs.YtgediecndaheiaaGreat.XS
theorem yrP (l : List y4U) (h : ∀ y ∈ l, okE [.int .u8] y) : Pl.isBytes l := by
  intro y hy
  have h1 := h y hy
  have h2 : (Lit.int .u8 y).wf = true := h1
  have h3 : (decide ((0 : Int) ≤ y) && decide (y ≤ 255)) = true := h2
  simp only [Bool.and_eq_true, decide_eq_true_eq] at h3
  exact ⟨h3.1, by omega⟩
theorem FnSnaps : ∀ x : List y4U, okE [(.sl 5 kw)] x → ZN x = some true := by
  intro x ok
  exact Pl.law_Snaps x (yrP x ok.2)
end Go.Proofs.YtgediecndaheiaaGreat.Pure
