/- FnExactParseNum: the law's plain side: what the evaluator's functions compute is true. No condition. -/
import Derived.Test.YtmanmgafjbnakaaDoorPParse2
namespace Go.Proofs.YtmanmgafjbnakaaDoor.Pure
open Go.Proofs.YtmanmgafjbnakaaDoor.R Go.Proofs.YtmanmgafjbnakaaDoor.XP
theorem FnExactParseNum : ∀ x : ByteArray, okE [.str] x → F_laws_FnExactParseNum x = some true := by
  intro x ok
  unfold F_laws_FnExactParseNum F_impl_ParseNum
  by_cases h : (x.size : Int) > 1048576
  · rw [decide_eq_true h]
    rfl
  · rw [decide_eq_false h, cond_false, Pl.spec_Parse_eq x (by omega), Pl.specP_eq, if_pos (by omega)]
    simp
end Go.Proofs.YtmanmgafjbnakaaDoor.Pure
