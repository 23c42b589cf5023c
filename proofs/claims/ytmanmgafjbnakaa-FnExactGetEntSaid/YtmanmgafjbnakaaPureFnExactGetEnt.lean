/- FnExactGetEnt: the law's plain side: what the evaluator's functions compute is true. No condition. -/
import Derived.Test.YtmanmgafjbnakaaPGetEnt3
namespace Go.Proofs.Ytmanmgafjbnakaa.Pure
open Go.Proofs.Ytmanmgafjbnakaa.R Go.Proofs.Ytmanmgafjbnakaa.XT
theorem FnExactGetEnt : ∀ x : List E_u8, okE [(.sl 5 ts_u8)] x → F_laws_FnExactGetEnt x = some true := by
  intro l hok
  refine Pl.law_GetEnt l fun x hx => ?_
  have h := hok.2 x hx
  have h2 : (Lit.int .u8 x).wf = true := h
  have h3 : (decide ((0 : Int) ≤ x) && decide (x ≤ 255)) = true := h2
  simp only [Bool.and_eq_true, decide_eq_true_eq] at h3
  exact ⟨h3.1, by omega⟩
end Go.Proofs.Ytmanmgafjbnakaa.Pure
