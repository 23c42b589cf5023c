/- FnCalm: the law's plain side: what the evaluator's functions compute is true. No condition. -/
import Derived.Test.YtjllpipmaejeoaaGreatPCalms
namespace Go.Proofs.YtjllpipmaejeoaaGreat.Pure
open Go.Proofs.YtjllpipmaejeoaaGreat.R Go.Proofs.YtjllpipmaejeoaaGreat.XW
theorem yu4 (l : List y5E) (h : ∀ y ∈ l, okE [.int .u8] y) : Pl.isBytes l := by
  intro y hy
  have h1 := h y hy
  have h2 : (Lit.int .u8 y).wf = true := h1
  have h3 : (decide ((0 : Int) ≤ y) && decide (y ≤ 255)) = true := h2
  simp only [Bool.and_eq_true, decide_eq_true_eq] at h3
  exact ⟨h3.1, by omega⟩
theorem FnCalm : ∀ x : List y5E, okE [(.sl 5 kK)] x → jw x = some true := by
  intro x ok
  exact Pl.law_Calm x (yu4 x ok.2)
end Go.Proofs.YtjllpipmaejeoaaGreat.Pure
