/- States by what is seen of them; what is not spoken of need not be forgotten. No condition. -/
import Derived.Test.YtgediecndaheiaaGreatRStep
set_option linter.all false
namespace Go.Proofs.YtgediecndaheiaaGreat.R
open Go.RowKit
mutual
theorem A.forget_none {i : Nat} : ∀ (x : A), i ∉ x.ids → x.forget i = x
 | .own o, h => by
  have hne : o ≠ i := fun e => h (by simp [A.ids, e])
  simp [A.forget, yF hne]
 | .box b off, h => by
  have hne : b ≠ i := fun e => h (by simp [A.ids, e])
  simp [A.forget, yF hne]
 | .rtp o j c, h => by
  have hne : o ≠ i := fun e => h (by simp [A.ids, e])
  simp [A.forget, yF hne]
 | .clo f b, h => by
  have hne : b ≠ i := fun e => h (by simp [A.ids, e])
  simp [A.forget, yF hne]
 | .win o q, h => by
  have hne : o ≠ i := fun e => h (by simp [A.ids, e])
  simp [A.forget, yF hne]
 | .tl o q, h => by
  have hne : o ≠ i := fun e => h (by simp [A.ids, e])
  simp [A.forget, yF hne]
 | .agg l, h => by simp [A.forget, Jf l h]
 | .tup l, h => by simp [A.forget, Jf l h]
 | .dead, _ | .und, _ | .val _ _, _ | .nils, _ | .nilp, _ | .elp _ _ _ _ _, _ | .top _ _ _, _ | .fn _, _ => rfl
theorem Jf {i : Nat} : ∀ (l : List A), i ∉ jk l → za i l = l
 | [], _ => rfl
 | a :: r, h => by
  simp only [jk, List.mem_append, not_or] at h
  simp [za, A.forget_none a h.1, Jf r h.2]
end
theorem Ob.forget_none {i : Nat} (x : Ob) (h : i ∉ x.ids) : x.forget i = x := by
 cases x with
 | box cs => simp [Ob.forget, Jf cs h]
 | root _ _ _ _ => rfl
 | gone => rfl
end Go.Proofs.YtgediecndaheiaaGreat.R
