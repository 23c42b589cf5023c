/- FnReads: the law's plain side: what the evaluator's functions compute is true. No condition. -/
import Derived.Test.YtjllpipmaejeoaaGreatPReads
namespace Go.Proofs.YtjllpipmaejeoaaGreat.Pure
open Go.Proofs.YtjllpipmaejeoaaGreat.R Go.Proofs.YtjllpipmaejeoaaGreat.XR
theorem yqe (l : List y29) (h : ∀ y ∈ l, okE [.int .u8] y) : Pl.isBytes l := by
  intro y hy
  have h1 := h y hy
  have h2 : (Lit.int .u8 y).wf = true := h1
  have h3 : (decide ((0 : Int) ≤ y) && decide (y ≤ 255)) = true := h2
  simp only [Bool.and_eq_true, decide_eq_true_eq] at h3
  exact ⟨h3.1, by omega⟩
theorem FnReads : ∀ x : List y29, okE [(.sl 5 wV)] x → Zi x = some true := by
  intro x ok
  exact Pl.law_Reads x (yqe x ok.2)
end Go.Proofs.YtjllpipmaejeoaaGreat.Pure
