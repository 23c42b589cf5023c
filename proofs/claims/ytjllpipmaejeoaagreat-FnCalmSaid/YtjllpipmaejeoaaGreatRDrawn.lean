/- States by what is seen of them; what is not spoken of need not be forgotten. No condition. -/
import Derived.Test.YtjllpipmaejeoaaGreatRStep
set_option linter.all false
namespace Go.Proofs.YtjllpipmaejeoaaGreat.R
open Go.RowKit
mutual
theorem A.forget_none {i : Nat} : ∀ (x : A), i ∉ x.ids → x.forget i = x
 | .own o, h => by
  have hne : o ≠ i := fun e => h (by simp [A.ids, e])
  simp [A.forget, yJ hne]
 | .box b off, h => by
  have hne : b ≠ i := fun e => h (by simp [A.ids, e])
  simp [A.forget, yJ hne]
 | .rtp o j c, h => by
  have hne : o ≠ i := fun e => h (by simp [A.ids, e])
  simp [A.forget, yJ hne]
 | .clo f b, h => by
  have hne : b ≠ i := fun e => h (by simp [A.ids, e])
  simp [A.forget, yJ hne]
 | .win o q, h => by
  have hne : o ≠ i := fun e => h (by simp [A.ids, e])
  simp [A.forget, yJ hne]
 | .tl o q, h => by
  have hne : o ≠ i := fun e => h (by simp [A.ids, e])
  simp [A.forget, yJ hne]
 | .agg l, h => by simp [A.forget, Ja l h]
 | .tup l, h => by simp [A.forget, Ja l h]
 | .dead, _ | .und, _ | .val _ _, _ | .nils, _ | .nilp, _ | .elp _ _ _ _ _, _ | .top _ _ _, _ | .fn _, _ => rfl
theorem Ja {i : Nat} : ∀ (l : List A), i ∉ ji l → zk i l = l
 | [], _ => rfl
 | a :: r, h => by
  simp only [ji, List.mem_append, not_or] at h
  simp [zk, A.forget_none a h.1, Ja r h.2]
end
theorem Ob.forget_none {i : Nat} (x : Ob) (h : i ∉ x.ids) : x.forget i = x := by
 cases x with
 | box cs => simp [Ob.forget, Ja cs h]
 | root _ _ _ _ => rfl
 | gone => rfl
end Go.Proofs.YtjllpipmaejeoaaGreat.R
