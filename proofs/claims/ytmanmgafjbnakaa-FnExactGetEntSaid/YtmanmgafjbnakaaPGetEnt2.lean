/- An entry out of bytes: both sides answer alike. No condition. -/
import Derived.Test.YtmanmgafjbnakaaPGetEnt
namespace Go.Proofs.Ytmanmgafjbnakaa.Pl
open Go.Proofs.Ytmanmgafjbnakaa.R Go.Proofs.Ytmanmgafjbnakaa.XT
set_option linter.unusedVariables false
set_option linter.unusedSimpArgs false

def get4 (l : List Int) (i : Int) : Int := by_ l i * 16777216 + by_ l (i + 1) * 65536 + by_ l (i + 2) * 256 + by_ l (i + 3)
theorem sh8 : (2 : Int) ^ (min (Int.toNat (8 : Int)) (Go.IntKind.bits .i64)) = 256 := by decide
theorem sh16 : (2 : Int) ^ (min (Int.toNat (16 : Int)) (Go.IntKind.bits .i64)) = 65536 := by decide
theorem sh24 : (2 : Int) ^ (min (Int.toNat (24 : Int)) (Go.IntKind.bits .i64)) = 16777216 := by decide
theorem or8 (a b : Int) (h0 : 0 ≤ a) (h1 : a < 4294967296) (hb0 : 0 ≤ b) (hb1 : b < 256) : bits .or .i64 (a * 256) b = a * 256 + b := or_join 8 (by omega) a b h0 (by show a * 256 < _; omega) hb0 hb1
theorem or16 (a b : Int) (h0 : 0 ≤ a) (h1 : a < 4294967296) (hb0 : 0 ≤ b) (hb1 : b < 65536) : bits .or .i64 (a * 65536) b = a * 65536 + b := or_join 16 (by omega) a b h0 (by show a * 65536 < _; omega) hb0 hb1
theorem or24 (a b : Int) (h0 : 0 ≤ a) (h1 : a < 4294967296) (hb0 : 0 ≤ b) (hb1 : b < 16777216) : bits .or .i64 (a * 16777216) b = a * 16777216 + b := or_join 24 (by omega) a b h0 (by show a * 16777216 < _; omega) hb0 hb1
theorem l17Get_eq (l : List Int) (i : Int) (hb : isBytes l) (hl : l.length ≤ 1099511627776) (h0 : 0 ≤ i) (h1 : i + 4 ≤ l.length) : F_spec_l17Get (l, i) = some (get4 l i) := by
  have r0 := by_range hb i
  have r1 := by_range hb (i + 1)
  have r2 := by_range hb (i + 2)
  have r3 := by_range hb (i + 3)
  unfold F_spec_l17Get get4
  simp only [rd_by, w64_by hb]
  rw [w64 (n := i + 1) (by omega) (by omega), w64 (n := i + 2) (by omega) (by omega), w64 (n := i + 3) (by omega) (by omega), if_pos h0, if_pos (by omega), if_pos (by omega), if_pos (by omega), if_pos (by omega), if_pos (by omega), if_pos (by omega), if_pos (by omega), sh8, sh16, sh24,
    w64 (n := by_ l i * 16777216) (by omega) (by omega), w64 (n := by_ l (i + 1) * 65536) (by omega) (by omega), w64 (n := by_ l (i + 2) * 256) (by omega) (by omega)]
  rw [or24 _ _ r0.1 (by omega) (by omega) (by omega), show by_ l i * 16777216 + by_ l (i + 1) * 65536 = (by_ l i * 256 + by_ l (i + 1)) * 65536 by omega, or16 _ _ (by omega) (by omega) (by omega) (by omega),
    show (by_ l i * 256 + by_ l (i + 1)) * 65536 + by_ l (i + 2) * 256 = ((by_ l i * 256 + by_ l (i + 1)) * 256 + by_ l (i + 2)) * 256 by omega, or8 _ _ (by omega) (by omega) r3.1 r3.2]
theorem four_eq (l : List Int) (i : Int) (hb : isBytes l) (hl : l.length ≤ 1099511627776) (h0 : 0 ≤ i) (h1 : i + 4 ≤ l.length) : F_impl_reader_four (l, i, false) = some (get4 l i, l, i + 4, false) := by
  have ra := w2_range hb i
  have rb := w2_range hb (i + 2)
  unfold F_impl_reader_four
  rw [word_eq l i false hb hl h0 (by omega), if_pos ⟨rfl, by omega⟩]
  simp only [Option.bind_some]
  rw [word_eq l (i + 2) false hb hl (by omega) (by omega), if_pos ⟨rfl, by omega⟩]
  simp only [Option.bind_some]
  rw [sh16, w64 (n := w2 l i * 65536) (by omega) (by omega), or16 _ _ ra.1 (by omega) rb.1 (by omega), show i + 2 + 2 = i + 4 by omega]
  have : w2 l i * 65536 + w2 l (i + 2) = get4 l i := by
    unfold w2 get4
    rw [show i + 2 + 1 = i + 3 by omega]
    omega
  rw [this]
theorem four_bad (l : List Int) (i : Int) (bad : Bool) (hb : isBytes l) (hl : l.length ≤ 1099511627776) (h0 : 0 ≤ i) (h2 : i ≤ 1099511627777) (h1 : bad = false → (l.length : Int) < i + 4) : ∃ v a, F_impl_reader_four (l, i, bad) = some (v, l, a, true) := by
  have hbad : ∀ a : Int, 0 ≤ a → a ≤ 2199023255552 → F_impl_reader_word (l, a, true) = some (0, l, a, true) := fun a ha hb' => (bad_tail l a hb hl ha hb').2
  unfold F_impl_reader_four
  cases bad with
  | true =>
    rw [hbad i h0 (by omega)]
    simp only [Option.bind_some]
    rw [hbad i h0 (by omega)]
    exact ⟨_, _, rfl⟩
  | false =>
    rw [word_eq l i false hb hl h0 (by omega)]
    have := h1 rfl
    by_cases h : i + 2 ≤ l.length
    · rw [if_pos ⟨rfl, h⟩]
      simp only [Option.bind_some]
      rw [word_eq l (i + 2) false hb hl (by omega) (by omega), if_neg (by rintro ⟨_, h3⟩; omega)]
      exact ⟨_, _, rfl⟩
    · rw [if_neg (by rintro ⟨_, h3⟩; exact h h3)]
      simp only [Option.bind_some]
      rw [hbad i h0 (by omega)]
      exact ⟨_, _, rfl⟩

/-! ### A shorter list -/
theorem w2_take {l : List Int} {n : Nat} {i : Int} (h0 : 0 ≤ i) (hi : i + 2 ≤ n) : w2 (l.take n) i = w2 l i := by
  unfold w2
  rw [by_take (by omega), by_take (by omega)]
theorem getW_take {l : List Int} {n : Nat} (hn : n ≤ l.length) (i : Int) : ((getW (l.take n) i).2.2 = true → getW l i = getW (l.take n) i ∧ (getW (l.take n) i).2.1 ≤ n) ∧ ((getW l i).2.2 = true → (getW l i).2.1 ≤ n → getW (l.take n) i = getW l i) := by
  have hlen : (l.take n).length = n := by simp; omega
  constructor
  · intro h
    by_cases hc : 0 ≤ i ∧ i + 2 ≤ (l.take n).length
    · have e1 : getW (l.take n) i = (w2 (l.take n) i, i + 2, true) := if_pos hc
      rw [hlen] at hc
      have e2 : getW l i = (w2 l i, i + 2, true) := if_pos ⟨hc.1, by omega⟩
      rw [e1, e2, w2_take hc.1 hc.2]
      exact ⟨rfl, hc.2⟩
    · have e1 : getW (l.take n) i = (0, 0, false) := if_neg hc
      rw [e1] at h
      exact absurd h (by simp)
  · intro h hle
    by_cases hc : 0 ≤ i ∧ i + 2 ≤ l.length
    · have e2 : getW l i = (w2 l i, i + 2, true) := if_pos hc
      rw [e2] at hle
      simp only at hle
      have e1 : getW (l.take n) i = (w2 (l.take n) i, i + 2, true) := if_pos ⟨hc.1, by rw [hlen]; exact hle⟩
      rw [e1, e2, w2_take hc.1 hle]
    · have e2 : getW l i = (0, 0, false) := if_neg hc
      rw [e2] at h
      exact absurd h (by simp)
theorem getT_take {l : List Int} {n : Nat} (hb : isBytes l) (hn : n ≤ l.length) (i : Int) : ((getT (l.take n) i).2.2 = true → getT l i = getT (l.take n) i ∧ (getT (l.take n) i).2.1 ≤ n) ∧ ((getT l i).2.2 = true → (getT l i).2.1 ≤ n → getT (l.take n) i = getT l i) := by
  have hlen : (l.take n).length = n := by simp; omega
  have hr := w2_range hb i
  have same : 0 ≤ i → i + 2 + w2 l i ≤ n → (l.take n).take (i + 2 + w2 l i).toNat = l.take (i + 2 + w2 l i).toNat := by
    intro h0 h
    rw [List.take_take, Nat.min_eq_left (by omega)]
  constructor
  · intro h
    by_cases hc : 0 ≤ i ∧ i + 2 ≤ (l.take n).length ∧ w2 (l.take n) i ≤ 60 ∧ i + 2 + w2 (l.take n) i ≤ (l.take n).length
    · have e1 : getT (l.take n) i = (textOf (((l.take n).take (i + 2 + w2 (l.take n) i).toNat).drop (i + 2).toNat), i + 2 + w2 (l.take n) i, true) := if_pos hc
      rw [hlen] at hc
      have ew : w2 (l.take n) i = w2 l i := w2_take hc.1 hc.2.1
      rw [ew] at hc e1
      have e2 : getT l i = (textOf ((l.take (i + 2 + w2 l i).toNat).drop (i + 2).toNat), i + 2 + w2 l i, true) := if_pos ⟨hc.1, by omega, hc.2.2.1, by omega⟩
      rw [e1, e2, same hc.1 hc.2.2.2]
      exact ⟨rfl, hc.2.2.2⟩
    · have e1 : getT (l.take n) i = (noB, 0, false) := if_neg hc
      rw [e1] at h
      exact absurd h (by simp)
  · intro h hle
    by_cases hc : 0 ≤ i ∧ i + 2 ≤ l.length ∧ w2 l i ≤ 60 ∧ i + 2 + w2 l i ≤ l.length
    · have e2 : getT l i = (textOf ((l.take (i + 2 + w2 l i).toNat).drop (i + 2).toNat), i + 2 + w2 l i, true) := if_pos hc
      rw [e2] at hle
      simp only at hle
      have ew : w2 (l.take n) i = w2 l i := w2_take hc.1 (by omega)
      have e1 : getT (l.take n) i = (textOf (((l.take n).take (i + 2 + w2 (l.take n) i).toNat).drop (i + 2).toNat), i + 2 + w2 (l.take n) i, true) := if_pos ⟨hc.1, by rw [hlen]; omega, by rw [ew]; exact hc.2.2.1, by rw [hlen, ew]; omega⟩
      rw [e1, e2, ew, same hc.1 hle]
    · have e2 : getT l i = (noB, 0, false) := if_neg hc
      rw [e2] at h
      exact absurd h (by simp)
theorem op_next {l : List Int} (hb : isBytes l) {i : Int} (hk : opk l i = true) : (oT1 l i).2.1 ≤ (oT2 l i).2.1 ∧ (oT2 l i).2.1 ≤ (oW1 l i).2.1 ∧ (oW1 l i).2.1 ≤ (oW2 l i).2.1 ∧ i < (oT1 l i).2.1 := by
  have tn : ∀ j, (getT l j).2.2 = true → j + 2 ≤ (getT l j).2.1 := by
    intro j h
    have := w2_range hb j
    by_cases hc : 0 ≤ j ∧ j + 2 ≤ l.length ∧ w2 l j ≤ 60 ∧ j + 2 + w2 l j ≤ l.length
    · have e2 : getT l j = (textOf ((l.take (j + 2 + w2 l j).toNat).drop (j + 2).toNat), j + 2 + w2 l j, true) := if_pos hc
      rw [e2]
      simp only
      omega
    · have e2 : getT l j = (noB, 0, false) := if_neg hc
      rw [e2] at h
      exact absurd h (by simp)
  have wn : ∀ j, (getW l j).2.2 = true → j + 2 ≤ (getW l j).2.1 := by
    intro j h
    by_cases hc : 0 ≤ j ∧ j + 2 ≤ l.length
    · have e2 : getW l j = (w2 l j, j + 2, true) := if_pos hc
      rw [e2]
      exact Int.le_refl _
    · have e2 : getW l j = (0, 0, false) := if_neg hc
      rw [e2] at h
      exact absurd h (by simp)
  unfold opk at hk
  simp only [Bool.and_eq_true, decide_eq_true_eq] at hk
  obtain ⟨⟨⟨⟨⟨_, k1⟩, k2⟩, k3⟩, k4⟩, _⟩ := hk
  have a1 : i + 1 + 2 ≤ (oT1 l i).2.1 := tn _ k1
  have a2 : (oT1 l i).2.1 + 2 ≤ (oT2 l i).2.1 := tn _ k2
  have a3 : (oT2 l i).2.1 + 2 ≤ (oW1 l i).2.1 := wn _ k3
  have a4 : (oW1 l i).2.1 + 2 ≤ (oW2 l i).2.1 := wn _ k4
  omega
theorem op_take {l : List Int} {n : Nat} (hb : isBytes l) (hn : n ≤ l.length) {i : Int} (h0 : 0 ≤ i) :
    (opk (l.take n) i = true ∧ (opv (l.take n) i).2.2.2.2.2 = n ↔ opk l i = true ∧ (opv l i).2.2.2.2.2 = n) ∧ (opk l i = true → (opv l i).2.2.2.2.2 = n → opv (l.take n) i = opv l i) := by
  have hlen : (l.take n).length = n := by simp; omega
  have core : opk l i = true → (opv l i).2.2.2.2.2 ≤ n → opk (l.take n) i = true ∧ opv (l.take n) i = opv l i := by
    intro hk hv
    have hnx := op_next hb hk
    have hk' := hk
    unfold opk at hk
    simp only [Bool.and_eq_true, decide_eq_true_eq] at hk
    obtain ⟨⟨⟨⟨⟨ki, k1⟩, k2⟩, k3⟩, k4⟩, k5⟩ := hk
    have hv' : (oW2 l i).2.1 ≤ n := hv
    have e1 : oT1 (l.take n) i = oT1 l i := (getT_take hb hn (i + 1)).2 k1 (by show (oT1 l i).2.1 ≤ n; omega)
    have e2 : oT2 (l.take n) i = oT2 l i := by
      unfold oT2
      rw [e1]
      exact (getT_take hb hn _).2 k2 (by show (oT2 l i).2.1 ≤ n; omega)
    have e3 : oW1 (l.take n) i = oW1 l i := by
      unfold oW1
      rw [e2]
      exact (getW_take hn _).2 k3 (by show (oW1 l i).2.1 ≤ n; omega)
    have e4 : oW2 (l.take n) i = oW2 l i := by
      unfold oW2
      rw [e3]
      exact (getW_take hn _).2 k4 (by show (oW2 l i).2.1 ≤ n; omega)
    have e0 : by_ (l.take n) i = by_ l i := by_take (by omega)
    unfold opk opv
    rw [e0, e1, e2, e3, e4, hlen]
    refine ⟨?_, rfl⟩
    simp only [Bool.and_eq_true, decide_eq_true_eq]
    exact ⟨⟨⟨⟨⟨by omega, k1⟩, k2⟩, k3⟩, k4⟩, k5⟩
  have back : opk (l.take n) i = true → opk l i = true ∧ opv (l.take n) i = opv l i := by
    intro hk
    unfold opk at hk
    simp only [Bool.and_eq_true, decide_eq_true_eq] at hk
    obtain ⟨⟨⟨⟨⟨ki, k1⟩, k2⟩, k3⟩, k4⟩, k5⟩ := hk
    rw [hlen] at ki
    have e1 : oT1 l i = oT1 (l.take n) i := ((getT_take hb hn (i + 1)).1 k1).1
    have e2 : oT2 l i = oT2 (l.take n) i := by
      unfold oT2
      rw [e1]
      exact ((getT_take hb hn _).1 k2).1
    have e3 : oW1 l i = oW1 (l.take n) i := by
      unfold oW1
      rw [e2]
      exact ((getW_take hn _).1 k3).1
    have e4 : oW2 l i = oW2 (l.take n) i := by
      unfold oW2
      rw [e3]
      exact ((getW_take hn _).1 k4).1
    have e0 : by_ (l.take n) i = by_ l i := by_take (by omega)
    unfold opk opv
    rw [e1, e2, e3, e4, ← e0]
    refine ⟨?_, rfl⟩
    simp only [Bool.and_eq_true, decide_eq_true_eq]
    exact ⟨⟨⟨⟨⟨by omega, k1⟩, k2⟩, k3⟩, k4⟩, k5⟩
  refine ⟨⟨fun h => ?_, fun h => ?_⟩, fun hk hv => (core hk (by omega)).2⟩
  · have := back h.1
    rw [← this.2]
    exact ⟨this.1, h.2⟩
  · have := core h.1 (by omega)
    rw [this.2]
    exact ⟨this.1, h.2⟩
end Go.Proofs.Ytmanmgafjbnakaa.Pl
