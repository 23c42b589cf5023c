/- Contracts that are proved by hand: functions with plain results that change nothing. No condition. -/
import Derived.Test.YtgediecndaheiaaGreatRRow
set_option linter.all false
namespace Go.Proofs.YtgediecndaheiaaGreat.R
open Go.RowKit
variable {P : Program} {C : Ctx}
theorem ydb {w : World} : ∀ (ps : List PK) (args vs : List Value) (pb : List (Nat × Nat)), (∀ p ∈ ps, p.isP = false) → VY w ps args vs pb → pb = [] := by
 intro ps
 induction ps with
 | nil => intro args vs pb _ h; exact h.2.2
 | cons p ps ih =>
  intro args vs pb hp h
  cases p with
  | v agg ts os =>
   obtain ⟨arg, vs1, args', vs', _, _, _, _, hs⟩ := h
   exact ih args' vs' pb (fun q hq => hp q (by simp [hq])) hs
  | k f =>
   obtain ⟨args', _, hs⟩ := h
   exact ih args' vs pb (fun q hq => hp q (by simp [hq])) hs
  | p wr ts os => exact absurd (hp (.p wr ts os) (by simp)) (by simp [PK.isP])
end Go.Proofs.YtgediecndaheiaaGreat.R
