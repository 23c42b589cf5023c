/- FnImages: the law's plain side: what the evaluator's functions compute is true. No condition. -/
import Derived.Test.YthgdjjdigalckaaGreatPImages
namespace Go.Proofs.YthgdjjdigalckaaGreat.Pure
open Go.Proofs.YthgdjjdigalckaaGreat.R Go.Proofs.YthgdjjdigalckaaGreat.XI
theorem yyq (l : List za) (h : ∀ y ∈ l, okE [.int .u8] y) : Pl.isBytes l := by
  intro y hy
  have h1 := h y hy
  have h2 : (Lit.int .u8 y).wf = true := h1
  have h3 : (decide ((0 : Int) ≤ y) && decide (y ≤ 255)) = true := h2
  simp only [Bool.and_eq_true, decide_eq_true_eq] at h3
  exact ⟨h3.1, by omega⟩
theorem FnImages : ∀ x : List za, okE [(.sl 5 yu)] x → Zf x = some true := by
  intro x ok
  exact Pl.law_Images x (yyq x ok.2)
end Go.Proofs.YthgdjjdigalckaaGreat.Pure
