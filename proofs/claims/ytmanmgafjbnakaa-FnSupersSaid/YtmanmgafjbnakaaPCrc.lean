/- The checksum, copies and comparisons of bytes. No condition. -/
import Derived.Test.YtmanmgafjbnakaaPRng
namespace Go.Proofs.Ytmanmgafjbnakaa.Pl
open Go.Proofs.Ytmanmgafjbnakaa.R Go.Proofs.Ytmanmgafjbnakaa.XU
set_option linter.unusedVariables false
set_option linter.unusedSimpArgs false

theorem rd_by (l : List Int) (i : Int) : rd_u8 l i = by_ l i := rfl
theorem drop_by (l : List Int) (i : Int) (h0 : 0 ≤ i) (h : i < l.length) : l.drop i.toNat = by_ l i :: l.drop (i.toNat + 1) := by
  have hn : i.toNat < l.length := by omega
  rw [List.drop_eq_getElem_cons hn]
  unfold by_
  rw [List.getD_eq_getElem?_getD, List.getElem?_eq_getElem hn]
  rfl
theorem fdiv2 (x : Int) : Int.fdiv x (2 ^ (min (Int.toNat (1 : Int)) (Go.IntKind.bits .i64))) = x / 2 := by
  show Int.fdiv x 2 = x / 2
  rw [Int.fdiv_eq_ediv_of_nonneg _ (by omega)]
theorem spec_crc_inner {R : Type} (l : List Int) (i : Int) (k : List Int × Int × Int → Option R) : ∀ x : Int, L_spec_Crc_7 k (l, x, i, 0) = k (l, crcBits 8 x, i) := by
  intro x
  unfold L_spec_Crc_7
  have key := loop_fuel (step := S_spec_Crc_7 k) (fun t : List Int × Int × Int × Int => 8 - t.2.2.2.toNat) (fun t => t.1 = l ∧ t.2.2.1 = i ∧ 0 ≤ t.2.2.2 ∧ t.2.2.2 ≤ 8) (fun t => k (l, crcBits (8 - t.2.2.2.toNat) t.2.1, i)) ?_ (l, x, i, 0) ⟨rfl, rfl, by simp, by simp⟩ (by simp)
  · simpa using key
  · rintro again ⟨l', x, i', j⟩ ⟨rfl, rfl, h0, h1⟩ hag
    simp only at h0 h1 ⊢
    unfold S_spec_Crc_7
    simp only [Bool.cond_eq_ite, decide_eq_true_eq, bi, and1, fdiv2]
    by_cases hj : j < 8
    · have hw : Go.IntKind.wrap .i64 (j + 1) = j + 1 := w64 (by omega) (by omega)
      obtain ⟨d, hd⟩ : ∃ d, 8 - j.toNat = d + 1 := ⟨7 - j.toNat, by omega⟩
      have hd' : 8 - (j + 1).toNat = d := by omega
      rw [if_pos hj, hw, hd, crcBits]
      unfold crcBit
      by_cases hx : x % 2 = 1
      · rw [if_pos hx, if_pos hx]
        have := hag (l', bits .xor .i64 (x / 2) 2197175160, i', j + 1) ⟨rfl, rfl, by simp only; omega, by simp only; omega⟩ (by simp only; omega)
        rw [this]
        simp only [hd']
      · rw [if_neg hx, if_neg hx]
        have := hag (l', x / 2, i', j + 1) ⟨rfl, rfl, by simp only; omega, by simp only; omega⟩ (by simp only; omega)
        rw [this]
        simp only [hd']
    · have : j = 8 := by omega
      subst this
      simp [crcBits]
theorem w64_by {l : List Int} (h : isBytes l) (i : Int) : Go.IntKind.wrap .i64 (by_ l i) = by_ l i := by
  have := by_range h i
  exact w64 (by omega) (by omega)
theorem spec_Crc_eq (l : List Int) (hb : isBytes l) (hl : l.length ≤ 1099511627776) : F_spec_Crc l = some (crc l) := by
  unfold F_spec_Crc L_spec_Crc_3
  rw [loop_fuel (fun t : List Int × Int × Int => t.1.length - t.2.2.toNat) (fun t => t.1 = l ∧ 0 ≤ t.2.2 ∧ t.2.2 ≤ l.length) (fun t => some (bits .xor .i64 ((l.drop t.2.2.toNat).foldl crcStep t.2.1) 4294967295)) ?_ (l, 4294967295, 0) ⟨rfl, by simp, by simp⟩ (by simp; omega)]
  · rfl
  · rintro again ⟨l', x, i⟩ ⟨rfl, h0, h1⟩ hag
    simp only at h0 h1 hl hb ⊢
    unfold S_spec_Crc_3
    simp only [Bool.cond_eq_ite, decide_eq_true_eq, rd_by, w64_by hb]
    by_cases hi : i < (l'.length : Int)
    · have hw : Go.IntKind.wrap .i64 (i + 1) = i + 1 := w64 (by omega) (by omega)
      rw [if_pos hi, if_pos h0, if_pos hi, spec_crc_inner]
      simp only [hw]
      rw [hag (l', crcBits 8 (bits .xor .i64 x (by_ l' i)), i + 1) ⟨rfl, by simp only; omega, by simp only; omega⟩ (by simp only; omega), drop_by l' i h0 hi]
      have e1 : (i + 1).toNat = i.toNat + 1 := by omega
      simp only [e1, List.foldl_cons, crcStep]
    · rw [if_neg hi, List.drop_of_length_le (by omega)]
      rfl
theorem tdiv2 (x : Int) (h : 0 ≤ x) : Int.tdiv x 2 = x / 2 := Int.tdiv_eq_ediv_of_nonneg h
theorem tmod2 (x : Int) (h : 0 ≤ x) : Int.tmod x 2 = x % 2 := Int.tmod_eq_emod_of_nonneg h
theorem impl_crc_inner {R : Type} (l : List Int) (n i : Int) (k : Int × List Int × Int × Int → Option R) : ∀ x : Int, 0 ≤ x → x < 4294967296 → L_impl_Crc_7 k (x, l, n, i, 0) = k (crcBits 8 x, l, n, i) := by
  intro x hx0 hx1
  unfold L_impl_Crc_7
  have key := loop_fuel (step := S_impl_Crc_7 k) (fun t : Int × List Int × Int × Int × Int => 8 - t.2.2.2.2.toNat) (fun t => t.2.1 = l ∧ t.2.2.1 = n ∧ t.2.2.2.1 = i ∧ 0 ≤ t.2.2.2.2 ∧ t.2.2.2.2 ≤ 8 ∧ 0 ≤ t.1 ∧ t.1 < 4294967296) (fun t => k (crcBits (8 - t.2.2.2.2.toNat) t.1, l, n, i)) ?_ (x, l, n, i, 0) ⟨rfl, rfl, rfl, by simp, by simp, hx0, hx1⟩ (by simp)
  · simpa using key
  · rintro again ⟨x, l', n', i', j⟩ ⟨rfl, rfl, rfl, h0, h1, hx0, hx1⟩ hag
    simp only at h0 h1 hx0 hx1 ⊢
    unfold S_impl_Crc_7
    simp only [Bool.cond_eq_ite, decide_eq_true_eq, bi, tmod2 x hx0, tdiv2 x hx0, w64 (n := x / 2) (by omega) (by omega)]
    by_cases hj : j < 8
    · have hw : Go.IntKind.wrap .i64 (j + 1) = j + 1 := w64 (by omega) (by omega)
      obtain ⟨d, hd⟩ : ∃ d, 8 - j.toNat = d + 1 := ⟨7 - j.toNat, by omega⟩
      have hd' : 8 - (j + 1).toNat = d := by omega
      have hr := crcBit_range x hx0 hx1
      rw [if_pos hj, hw, hd, crcBits]
      unfold crcBit at hr ⊢
      by_cases hx : x % 2 = 1
      · rw [if_pos hx] at hr ⊢
        rw [if_pos hx]
        have := hag (bits .xor .i64 (x / 2) 2197175160, l', n', i', j + 1) ⟨rfl, rfl, rfl, by simp only; omega, by simp only; omega, hr.1, hr.2⟩ (by simp only; omega)
        rw [this]
        simp only [hd']
      · rw [if_neg hx] at hr ⊢
        rw [if_neg hx]
        have := hag (x / 2, l', n', i', j + 1) ⟨rfl, rfl, rfl, by simp only; omega, by simp only; omega, hr.1, hr.2⟩ (by simp only; omega)
        rw [this]
        simp only [hd']
    · have : j = 8 := by omega
      subst this
      simp [crcBits]
theorem impl_Crc_eq (l : List Int) (hb : isBytes l) (hl : l.length ≤ 1099511627776) : F_impl_Crc l = some (crc l) := by
  unfold F_impl_Crc L_impl_Crc_3
  rw [loop_fuel (fun t : Int × List Int × Int × Int => t.2.1.length - t.2.2.2.toNat) (fun t => t.2.1 = l ∧ t.2.2.1 = l.length ∧ 0 ≤ t.2.2.2 ∧ t.2.2.2 ≤ l.length ∧ 0 ≤ t.1 ∧ t.1 < 4294967296) (fun t => some (bits .xor .i64 ((l.drop t.2.2.2.toNat).foldl crcStep t.1) 4294967295)) ?_ (4294967295, l, l.length, 0) ⟨rfl, rfl, by simp, by simp, by simp, by simp⟩ (by simp; omega)]
  · rfl
  · rintro again ⟨x, l', n, i⟩ ⟨rfl, hn, h0, h1, hx0, hx1⟩ hag
    simp only at hn h0 h1 hx0 hx1 hl hb ⊢
    subst hn
    unfold S_impl_Crc_3
    simp only [Bool.cond_eq_ite, decide_eq_true_eq, rd_by, w64_by hb]
    by_cases hi : i < (l'.length : Int)
    · have hw : Go.IntKind.wrap .i64 (i + 1) = i + 1 := w64 (by omega) (by omega)
      have hbr := by_range hb i
      have hxr := xor_range x (by_ l' i) hx0 hx1 hbr.1 (by omega)
      have hsr := crcStep_range x (by_ l' i) hx0 hx1 hbr.1 hbr.2
      rw [if_pos hi, if_pos h0, if_pos hi, impl_crc_inner _ _ _ _ _ hxr.1 hxr.2]
      simp only [hw]
      rw [hag (crcBits 8 (bits .xor .i64 x (by_ l' i)), l', l'.length, i + 1) ⟨rfl, rfl, by simp only; omega, by simp only; omega, hsr.1, hsr.2⟩ (by simp only; omega), drop_by l' i h0 hi]
      have e1 : (i + 1).toNat = i.toNat + 1 := by omega
      simp only [e1, List.foldl_cons, crcStep]
    · rw [if_neg hi, List.drop_of_length_le (by omega)]
      rfl

/-! ### Copies -/
end Go.Proofs.Ytmanmgafjbnakaa.Pl
