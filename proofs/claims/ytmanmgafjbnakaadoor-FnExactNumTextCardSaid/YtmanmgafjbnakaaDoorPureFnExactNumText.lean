/- FnExactNumText: the law's plain side: what the evaluator's functions compute is true. No condition. -/
import Derived.Test.YtmanmgafjbnakaaDoorPNum
namespace Go.Proofs.YtmanmgafjbnakaaDoor.Pure
open Go.Proofs.YtmanmgafjbnakaaDoor.R Go.Proofs.YtmanmgafjbnakaaDoor.XN
theorem FnExactNumText : ∀ x : Int, okE [(.int .i64)] x → F_laws_FnExactNumText x = some true := by
  intro x ok
  obtain ⟨h0, h1⟩ := Pl.i64_of ok
  unfold F_laws_FnExactNumText
  rw [Pl.NumText_eq x h0 h1, Pl.implNum_eq x h0 h1]
  simp only [Option.bind_some, beq_self_eq_true, Bool.not_true, cond_false]
end Go.Proofs.YtmanmgafjbnakaaDoor.Pure
