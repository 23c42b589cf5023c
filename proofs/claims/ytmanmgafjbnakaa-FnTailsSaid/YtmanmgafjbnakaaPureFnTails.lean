/- FnTails: the law's plain side: what the evaluator's functions compute is true. No condition. -/
import Derived.Test.YtmanmgafjbnakaaPTails2
namespace Go.Proofs.Ytmanmgafjbnakaa.Pure
open Go.Proofs.Ytmanmgafjbnakaa.R Go.Proofs.Ytmanmgafjbnakaa.XV
theorem FnTails : ∀ x : List E_u8, okE [(.sl 5 ts_u8)] x → F_laws_FnTails x = some true := by
  intro x ok
  refine Pl.law_Tails x (fun y hy => ?_)
  have h := ok.2 y hy
  have h2 : (Lit.int .u8 y).wf = true := h
  have h3 : (decide ((0 : Int) ≤ y) && decide (y ≤ 255)) = true := h2
  simp only [Bool.and_eq_true, decide_eq_true_eq] at h3
  exact ⟨h3.1, by omega⟩
end Go.Proofs.Ytmanmgafjbnakaa.Pure
