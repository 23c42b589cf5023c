/- Words out of bytes. No condition. -/
import Derived.Test.YtmanmgafjbnakaaPCrc
namespace Go.Proofs.Ytmanmgafjbnakaa.Pl
open Go.Proofs.Ytmanmgafjbnakaa.R Go.Proofs.Ytmanmgafjbnakaa.XU
set_option linter.unusedVariables false
set_option linter.unusedSimpArgs false

def w2 (l : List Int) (i : Int) : Int := by_ l i * 256 + by_ l (i + 1)
def getW (l : List Int) (i : Int) : Int × Int × Bool := if 0 ≤ i ∧ i + 2 ≤ l.length then (w2 l i, i + 2, true) else (0, 0, false)
theorem w2_range {l : List Int} (h : isBytes l) (i : Int) : 0 ≤ w2 l i ∧ w2 l i ≤ 65535 := by
  have h1 := by_range h i
  have h2 := by_range h (i + 1)
  unfold w2
  omega
theorem join8 (a b : Int) (h0 : 0 ≤ a) (h1 : a < 256) (hb0 : 0 ≤ b) (hb1 : b < 256) : bits .or .i64 (Go.IntKind.wrap .i64 (a * 2 ^ (min (Int.toNat (8 : Int)) (Go.IntKind.bits .i64)))) b = a * 256 + b := by
  show bits .or .i64 (Go.IntKind.wrap .i64 (a * 256)) b = a * 256 + b
  rw [w64 (by omega) (by omega)]
  exact or_join 8 (by omega) a b h0 (by show a * 256 < _; omega) hb0 hb1
theorem spec_GetW_eq (l : List Int) (i : Int) (hb : isBytes l) (hl : l.length ≤ 1099511627776) (h0 : -1099511627776 ≤ i) (h1 : i ≤ 4398046511104) : F_spec_GetW (l, i) = some (getW l i) := by
  unfold F_spec_GetW getW
  simp only [l1In_eq, Option.bind_some, Bool.cond_eq_ite, rd_by, w64_by hb]
  rw [w64 (n := (l.length : Int) - 2) (by omega) (by omega), w64 (n := i + 1) (by omega) (by omega), w64 (n := i + 2) (by omega) (by omega)]
  by_cases h : 0 ≤ i ∧ i + 2 ≤ l.length
  · have hin : inR i 0 ((l.length : Int) - 2) = true := inR_iff.2 ⟨h.1, by omega⟩
    have r1 := by_range hb i
    have r2 := by_range hb (i + 1)
    rw [hin, if_pos h, if_neg (by simp), if_pos h.1, if_pos (by omega), if_pos (by omega), if_pos (by omega), join8 _ _ r1.1 r1.2 r2.1 r2.2]
    rfl
  · have hin : inR i 0 ((l.length : Int) - 2) = false := by
      cases hc : inR i 0 ((l.length : Int) - 2) with
      | false => rfl
      | true =>
        have := inR_iff.1 hc
        exact absurd ⟨this.1, by omega⟩ h
    rw [hin, if_neg h]
    rfl
theorem impl_GetW_eq (l : List Int) (i : Int) (hb : isBytes l) (hl : l.length ≤ 1099511627776) (h0 : -1099511627776 ≤ i) (h1 : i ≤ 4398046511104) : F_impl_GetW (l, i) = some (getW l i) := by
  unfold F_impl_GetW getW
  simp only [Option.bind_some, Bool.cond_eq_ite, rd_by, w64_by hb, decide_eq_true_eq]
  rw [w64 (n := (l.length : Int) - 2) (by omega) (by omega), w64 (n := i + 1) (by omega) (by omega), w64 (n := i + 2) (by omega) (by omega)]
  by_cases h : 0 ≤ i ∧ i + 2 ≤ l.length
  · have r1 := by_range hb i
    have r2 := by_range hb (i + 1)
    rw [if_pos h, if_neg (by omega), Option.bind_some, if_neg (by simp; omega), if_pos h.1, if_pos (by omega), if_pos (by omega), if_pos (by omega), join8 _ _ r1.1 r1.2 r2.1 r2.2]
    rfl
  · rw [if_neg h]
    by_cases h2 : i < 0
    · rw [if_pos h2, Option.bind_some, if_pos rfl]
    · rw [if_neg h2, Option.bind_some, if_pos (by simp; omega)]
/-! ### The reader -/
theorem one_eq (l : List Int) (i : Int) (bad : Bool) (hb : isBytes l) (hl : l.length ≤ 1099511627776) (h0 : 0 ≤ i) (h1 : i ≤ 2199023255552) : F_impl_reader_one (l, i, bad) = some (if bad = false ∧ i < l.length then (by_ l i, l, i + 1, false) else (0, l, i, true)) := by
  unfold F_impl_reader_one
  simp only [Bool.cond_eq_ite, decide_eq_true_eq, rd_by, w64_by hb]
  rw [w64 (n := i + 1) (by omega) (by omega), show i + 1 - 1 = i by omega, w64 (n := i) (by omega) (by omega)]
  cases bad with
  | true => simp
  | false =>
    by_cases h : i < l.length
    · simp [h, h0, show ¬ i < 0 by omega, show ¬ (l.length : Int) ≤ i by omega, w64_by hb]
    · simp [h, show ¬ i < 0 by omega, show (l.length : Int) ≤ i by omega]
theorem word_eq (l : List Int) (i : Int) (bad : Bool) (hb : isBytes l) (hl : l.length ≤ 1099511627776) (h0 : 0 ≤ i) (h1 : i ≤ 2199023255552) : F_impl_reader_word (l, i, bad) = some (if bad = false ∧ i + 2 ≤ l.length then (w2 l i, l, i + 2, false) else (0, l, i, true)) := by
  unfold F_impl_reader_word
  simp only [impl_GetW_eq l i hb hl (by omega) (by omega), Option.bind_some, Bool.cond_eq_ite]
  cases bad with
  | true => simp
  | false =>
    by_cases h : i + 2 ≤ l.length
    · have eW : getW l i = (w2 l i, i + 2, true) := if_pos ⟨h0, h⟩
      rw [eW]
      simp [h]
    · have eW : getW l i = (0, 0, false) := if_neg (by rintro ⟨_, h2⟩; exact h h2)
      rw [eW]
      simp [h]
theorem done_eq (l : List Int) (i : Int) (bad : Bool) : F_impl_reader_done (l, i, bad) = some (!bad && (i == (l.length : Int)), l, i, bad) := by
  unfold F_impl_reader_done
  cases bad <;> simp
theorem word_bad (l : List Int) (a : Int) (hb : isBytes l) (hl : l.length ≤ 1099511627776) (h0 : 0 ≤ a) (h1 : a ≤ 2199023255552) : F_impl_reader_word (l, a, true) = some (0, l, a, true) := by
  rw [word_eq l a true hb hl h0 h1]
  simp
theorem one_bad (l : List Int) (a : Int) (hb : isBytes l) (hl : l.length ≤ 1099511627776) (h0 : 0 ≤ a) (h1 : a ≤ 2199023255552) : F_impl_reader_one (l, a, true) = some (0, l, a, true) := by
  rw [one_eq l a true hb hl h0 h1]
  simp
end Go.Proofs.Ytmanmgafjbnakaa.Pl
