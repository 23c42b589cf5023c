/- States by what is seen of them; what is not spoken of need not be forgotten. No condition. -/
import Derived.Test.YtmapoakbdgpamaaGreatRStep
set_option linter.all false
namespace Go.Proofs.YtmapoakbdgpamaaGreat.R
open Go.RowKit
mutual
theorem A.forget_none {i : Nat} : ∀ (x : A), i ∉ x.ids → x.forget i = x
 | .own o, h => by
  have hne : o ≠ i := fun e => h (by simp [A.ids, e])
  simp [A.forget, yt hne]
 | .box b off, h => by
  have hne : b ≠ i := fun e => h (by simp [A.ids, e])
  simp [A.forget, yt hne]
 | .rtp o j c, h => by
  have hne : o ≠ i := fun e => h (by simp [A.ids, e])
  simp [A.forget, yt hne]
 | .clo f b, h => by
  have hne : b ≠ i := fun e => h (by simp [A.ids, e])
  simp [A.forget, yt hne]
 | .win o q, h => by
  have hne : o ≠ i := fun e => h (by simp [A.ids, e])
  simp [A.forget, yt hne]
 | .bor o j c, h => by
  have hne : o ≠ i := fun e => h (by simp [A.ids, e])
  simp [A.forget, yt hne]
 | .agg l, h => by simp [A.forget, jp l h]
 | .tup l, h => by simp [A.forget, jp l h]
 | .dead, _ | .und, _ | .val _ _, _ | .nils, _ | .nilp, _ | .elp _ _ _ _ _, _ | .fn _, _ => rfl
theorem jp {i : Nat} : ∀ (l : List A), i ∉ zK l → yZ i l = l
 | [], _ => rfl
 | a :: r, h => by
  simp only [zK, List.mem_append, not_or] at h
  simp [yZ, A.forget_none a h.1, jp r h.2]
end
theorem Ob.forget_none {i : Nat} (x : Ob) (h : i ∉ x.ids) : x.forget i = x := by
 cases x with
 | box cs => simp [Ob.forget, jp cs h]
 | root _ _ _ _ => rfl
 | deep _ _ _ _ _ => rfl
 | gone => rfl
end Go.Proofs.YtmapoakbdgpamaaGreat.R
