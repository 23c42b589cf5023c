/- FnExactGetPool: the law's plain side: what the evaluator's functions compute is true. No condition. -/
import Derived.Test.YtmapoakbdgpamaaGreatPGetPool
namespace Go.Proofs.YtmapoakbdgpamaaGreat.Pure
open Go.Proofs.YtmapoakbdgpamaaGreat.R Go.Proofs.YtmapoakbdgpamaaGreat.XK
theorem byteOk (l : List E_u8) (h : ∀ y ∈ l, okE [.int .u8] y) : Pl.isBytes l := by
  intro y hy
  have h1 := h y hy
  have h2 : (Lit.int .u8 y).wf = true := h1
  have h3 : (decide ((0 : Int) ≤ y) && decide (y ≤ 255)) = true := h2
  simp only [Bool.and_eq_true, decide_eq_true_eq] at h3
  exact ⟨h3.1, by omega⟩
theorem FnExactGetPool : ∀ x : List E_u8, okE [(.sl 5 ts_u8)] x → F_laws_FnExactGetPool x = some true := by
  intro x ok
  exact Pl.law_GetPool x (byteOk x ok.2)
end Go.Proofs.YtmapoakbdgpamaaGreat.Pure
