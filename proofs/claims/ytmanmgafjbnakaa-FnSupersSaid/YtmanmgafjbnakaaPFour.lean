/- Four bytes. No condition. -/
import Derived.Test.YtmanmgafjbnakaaPReadW
namespace Go.Proofs.Ytmanmgafjbnakaa.Pl
open Go.Proofs.Ytmanmgafjbnakaa.R Go.Proofs.Ytmanmgafjbnakaa.XU
set_option linter.unusedVariables false
set_option linter.unusedSimpArgs false

def get4 (l : List Int) (i : Int) : Int := by_ l i * 16777216 + by_ l (i + 1) * 65536 + by_ l (i + 2) * 256 + by_ l (i + 3)
theorem sh8 : (2 : Int) ^ (min (Int.toNat (8 : Int)) (Go.IntKind.bits .i64)) = 256 := by decide
theorem sh16 : (2 : Int) ^ (min (Int.toNat (16 : Int)) (Go.IntKind.bits .i64)) = 65536 := by decide
theorem sh24 : (2 : Int) ^ (min (Int.toNat (24 : Int)) (Go.IntKind.bits .i64)) = 16777216 := by decide
theorem or8 (a b : Int) (h0 : 0 ≤ a) (h1 : a < 4294967296) (hb0 : 0 ≤ b) (hb1 : b < 256) : bits .or .i64 (a * 256) b = a * 256 + b := or_join 8 (by omega) a b h0 (by show a * 256 < _; omega) hb0 hb1
theorem or16 (a b : Int) (h0 : 0 ≤ a) (h1 : a < 4294967296) (hb0 : 0 ≤ b) (hb1 : b < 65536) : bits .or .i64 (a * 65536) b = a * 65536 + b := or_join 16 (by omega) a b h0 (by show a * 65536 < _; omega) hb0 hb1
theorem or24 (a b : Int) (h0 : 0 ≤ a) (h1 : a < 4294967296) (hb0 : 0 ≤ b) (hb1 : b < 16777216) : bits .or .i64 (a * 16777216) b = a * 16777216 + b := or_join 24 (by omega) a b h0 (by show a * 16777216 < _; omega) hb0 hb1
theorem l17Get_eq (l : List Int) (i : Int) (hb : isBytes l) (hl : l.length ≤ 1099511627776) (h0 : 0 ≤ i) (h1 : i + 4 ≤ l.length) : F_spec_l17Get (l, i) = some (get4 l i) := by
  have r0 := by_range hb i
  have r1 := by_range hb (i + 1)
  have r2 := by_range hb (i + 2)
  have r3 := by_range hb (i + 3)
  unfold F_spec_l17Get get4
  simp only [rd_by, w64_by hb]
  rw [w64 (n := i + 1) (by omega) (by omega), w64 (n := i + 2) (by omega) (by omega), w64 (n := i + 3) (by omega) (by omega), if_pos h0, if_pos (by omega), if_pos (by omega), if_pos (by omega), if_pos (by omega), if_pos (by omega), if_pos (by omega), if_pos (by omega), sh8, sh16, sh24,
    w64 (n := by_ l i * 16777216) (by omega) (by omega), w64 (n := by_ l (i + 1) * 65536) (by omega) (by omega), w64 (n := by_ l (i + 2) * 256) (by omega) (by omega)]
  rw [or24 _ _ r0.1 (by omega) (by omega) (by omega), show by_ l i * 16777216 + by_ l (i + 1) * 65536 = (by_ l i * 256 + by_ l (i + 1)) * 65536 by omega, or16 _ _ (by omega) (by omega) (by omega) (by omega),
    show (by_ l i * 256 + by_ l (i + 1)) * 65536 + by_ l (i + 2) * 256 = ((by_ l i * 256 + by_ l (i + 1)) * 256 + by_ l (i + 2)) * 256 by omega, or8 _ _ (by omega) (by omega) r3.1 r3.2]
theorem four_eq (l : List Int) (i : Int) (hb : isBytes l) (hl : l.length ≤ 1099511627776) (h0 : 0 ≤ i) (h1 : i + 4 ≤ l.length) : F_impl_reader_four (l, i, false) = some (get4 l i, l, i + 4, false) := by
  have ra := w2_range hb i
  have rb := w2_range hb (i + 2)
  unfold F_impl_reader_four
  rw [word_eq l i false hb hl h0 (by omega), if_pos ⟨rfl, by omega⟩]
  simp only [Option.bind_some]
  rw [word_eq l (i + 2) false hb hl (by omega) (by omega), if_pos ⟨rfl, by omega⟩]
  simp only [Option.bind_some]
  rw [sh16, w64 (n := w2 l i * 65536) (by omega) (by omega), or16 _ _ ra.1 (by omega) rb.1 (by omega), show i + 2 + 2 = i + 4 by omega]
  have : w2 l i * 65536 + w2 l (i + 2) = get4 l i := by
    unfold w2 get4
    rw [show i + 2 + 1 = i + 3 by omega]
    omega
  rw [this]
theorem four_bad (l : List Int) (i : Int) (bad : Bool) (hb : isBytes l) (hl : l.length ≤ 1099511627776) (h0 : 0 ≤ i) (h2 : i ≤ 1099511627777) (h1 : bad = false → (l.length : Int) < i + 4) : ∃ v a, F_impl_reader_four (l, i, bad) = some (v, l, a, true) := by
  have hbad : ∀ a : Int, 0 ≤ a → a ≤ 2199023255552 → F_impl_reader_word (l, a, true) = some (0, l, a, true) := fun a ha hb' => word_bad l a hb hl ha hb'
  unfold F_impl_reader_four
  cases bad with
  | true =>
    rw [hbad i h0 (by omega)]
    simp only [Option.bind_some]
    rw [hbad i h0 (by omega)]
    exact ⟨_, _, rfl⟩
  | false =>
    rw [word_eq l i false hb hl h0 (by omega)]
    have := h1 rfl
    by_cases h : i + 2 ≤ l.length
    · rw [if_pos ⟨rfl, h⟩]
      simp only [Option.bind_some]
      rw [word_eq l (i + 2) false hb hl (by omega) (by omega), if_neg (by rintro ⟨_, h3⟩; omega)]
      exact ⟨_, _, rfl⟩
    · rw [if_neg (by rintro ⟨_, h3⟩; exact h h3)]
      simp only [Option.bind_some]
      rw [hbad i h0 (by omega)]
      exact ⟨_, _, rfl⟩

end Go.Proofs.Ytmanmgafjbnakaa.Pl
