/- FnExactGetSuper: the law's plain side: what the evaluator's functions compute is true. No condition. -/
import Derived.Test.YtcabfgbcjiaenaaPGetSuper
namespace Go.Proofs.Ytcabfgbcjiaenaa.Pure
open Go.Proofs.Ytcabfgbcjiaenaa.R Go.Proofs.Ytcabfgbcjiaenaa.XS
theorem FnExactGetSuper : ∀ x : List E_u8, okE [(.sl 5 ts_u8)] x → F_laws_FnExactGetSuper x = some true := by
  intro l hok
  refine Pl.law_GetSuper l fun x hx => ?_
  have h := hok.2 x hx
  have h2 : (Lit.int .u8 x).wf = true := h
  have h3 : (decide ((0 : Int) ≤ x) && decide (x ≤ 255)) = true := h2
  simp only [Bool.and_eq_true, decide_eq_true_eq] at h3
  exact ⟨h3.1, by omega⟩
end Go.Proofs.Ytcabfgbcjiaenaa.Pure
