/- FnExactKeyText: the law's plain side: what the evaluator's functions compute is true. No condition. -/
import Derived.Test.YtmanmgafjbnakaaDoorPKeyTxt
namespace Go.Proofs.YtmanmgafjbnakaaDoor.Pure
open Go.Proofs.YtmanmgafjbnakaaDoor.R Go.Proofs.YtmanmgafjbnakaaDoor.XN
theorem FnExactKeyText : ∀ x : Int × Int × Int × Int × Int, okE [(.int .i64), (.int .i64), (.int .i64), (.int .i64), (.int .i64)] x → F_laws_FnExactKeyText x = some true := by
  rintro ⟨a, b, c, d, e⟩ ⟨ha, hb, hc, hd, he⟩
  obtain ⟨s, h1, h2⟩ := Pl.KeyText_ok a b c d e (Pl.i64_of ha) (Pl.i64_of hb) (Pl.i64_of hd)
  unfold F_laws_FnExactKeyText F_laws_toKey
  simp only [Option.bind_some]
  rw [h1, h2]
  simp only [Option.bind_some, beq_self_eq_true, Bool.not_true, cond_false]
end Go.Proofs.YtmanmgafjbnakaaDoor.Pure
