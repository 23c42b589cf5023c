/- One byte changed: the checksum is another. No condition. -/
import Derived.Test.YtmanmgafjbnakaaPBase
namespace Go.Proofs.Ytmanmgafjbnakaa.Pl
open Go.Proofs.Ytmanmgafjbnakaa.R Go.Proofs.Ytmanmgafjbnakaa.XU
set_option linter.unusedVariables false
set_option linter.unusedSimpArgs false

theorem xor_cast (x y : Int) (hx0 : 0 ≤ x) (hx1 : x < 4294967296) (hy0 : 0 ≤ y) (hy1 : y < 4294967296) : bits .xor .i64 x y = ((x.toNat ^^^ y.toNat : Nat) : Int) := by
  have := xor_nat x.toNat y.toNat (by omega) (by omega)
  rwa [Int.toNat_of_nonneg hx0, Int.toNat_of_nonneg hy0] at this
theorem xor_inj_l {x y b : Int} (hx0 : 0 ≤ x) (hx1 : x < 4294967296) (hy0 : 0 ≤ y) (hy1 : y < 4294967296) (hb0 : 0 ≤ b) (hb1 : b < 4294967296) (h : bits .xor .i64 x b = bits .xor .i64 y b) : x = y := by
  rw [xor_cast x b hx0 hx1 hb0 hb1, xor_cast y b hy0 hy1 hb0 hb1] at h
  have h1 : x.toNat ^^^ b.toNat = y.toNat ^^^ b.toNat := by exact_mod_cast h
  have h2 := congrArg (· ^^^ b.toNat) h1
  simp only [Nat.xor_assoc, Nat.xor_self, Nat.xor_zero] at h2
  omega
theorem xor_comm' {x y : Int} (hx0 : 0 ≤ x) (hx1 : x < 4294967296) (hy0 : 0 ≤ y) (hy1 : y < 4294967296) : bits .xor .i64 x y = bits .xor .i64 y x := by
  rw [xor_cast x y hx0 hx1 hy0 hy1, xor_cast y x hy0 hy1 hx0 hx1, Nat.xor_comm]
theorem xor_top {x : Int} (h0 : 0 ≤ x) (h1 : x < 2147483648) : 2147483648 ≤ bits .xor .i64 x 2197175160 := by
  rw [xor_cast x _ h0 (by omega) (by omega) (by omega)]
  have ht : (x.toNat ^^^ (2197175160 : Int).toNat).testBit 31 = true := by
    rw [Nat.testBit_xor, Nat.testBit_lt_two_pow (show x.toNat < 2 ^ 31 by omega)]
    decide
  have := Nat.ge_two_pow_of_testBit ht
  omega
theorem crcBit_inj {x y : Int} (hx0 : 0 ≤ x) (hx1 : x < 4294967296) (hy0 : 0 ≤ y) (hy1 : y < 4294967296) (h : crcBit x = crcBit y) : x = y := by
  unfold crcBit at h
  have tx := xor_top (x := x / 2) (by omega) (by omega)
  have ty := xor_top (x := y / 2) (by omega) (by omega)
  by_cases hx : x % 2 = 1
  · by_cases hy : y % 2 = 1
    · rw [if_pos hx, if_pos hy] at h
      have := xor_inj_l (x := x / 2) (y := y / 2) (by omega) (by omega) (by omega) (by omega) (by omega) (by omega) h
      omega
    · rw [if_pos hx, if_neg hy] at h
      omega
  · by_cases hy : y % 2 = 1
    · rw [if_neg hx, if_pos hy] at h
      omega
    · rw [if_neg hx, if_neg hy] at h
      omega
theorem crcBits_inj : ∀ (n : Nat) {x y : Int}, 0 ≤ x → x < 4294967296 → 0 ≤ y → y < 4294967296 → crcBits n x = crcBits n y → x = y
  | 0, x, y, _, _, _, _, h => h
  | n + 1, x, y, a, b, c, d, h => by
    have rx := crcBit_range x a b
    have ry := crcBit_range y c d
    exact crcBit_inj a b c d (crcBits_inj n rx.1 rx.2 ry.1 ry.2 h)
theorem crcStep_inj {x y b b' : Int} (hx0 : 0 ≤ x) (hx1 : x < 4294967296) (hy0 : 0 ≤ y) (hy1 : y < 4294967296) (hb0 : 0 ≤ b) (hb1 : b < 256) (hc0 : 0 ≤ b') (hc1 : b' < 256) (h : crcStep x b = crcStep y b') : bits .xor .i64 x b = bits .xor .i64 y b' := by
  unfold crcStep at h
  have r1 := xor_range x b hx0 hx1 hb0 (by omega)
  have r2 := xor_range y b' hy0 hy1 hc0 (by omega)
  exact crcBits_inj 8 r1.1 r1.2 r2.1 r2.2 h
theorem crcFold_range : ∀ (l : List Int) (x : Int), isBytes l → 0 ≤ x → x < 4294967296 → 0 ≤ l.foldl crcStep x ∧ l.foldl crcStep x < 4294967296
  | [], x, _, h0, h1 => ⟨h0, h1⟩
  | b :: l, x, hb, h0, h1 => by
    have hb' := hb b (by simp)
    have r := crcStep_range x b h0 h1 hb'.1 hb'.2
    exact crcFold_range l _ (fun y hy => hb y (by simp [hy])) r.1 r.2
theorem crcFold_inj : ∀ (l : List Int) {x y : Int}, isBytes l → 0 ≤ x → x < 4294967296 → 0 ≤ y → y < 4294967296 → l.foldl crcStep x = l.foldl crcStep y → x = y
  | [], x, y, _, _, _, _, _, h => h
  | b :: l, x, y, hb, a0, a1, c0, c1, h => by
    have hb' := hb b (by simp)
    have r1 := crcStep_range x b a0 a1 hb'.1 hb'.2
    have r2 := crcStep_range y b c0 c1 hb'.1 hb'.2
    have := crcFold_inj l (fun y hy => hb y (by simp [hy])) r1.1 r1.2 r2.1 r2.2 h
    exact xor_inj_l a0 a1 c0 c1 hb'.1 (by omega) (crcStep_inj a0 a1 c0 c1 hb'.1 hb'.2 hb'.1 hb'.2 this)
theorem crcFold_set : ∀ (l : List Int) (i : Nat) (v x : Int), isBytes l → i < l.length → 0 ≤ v → v < 256 → 0 ≤ x → x < 4294967296 → (l.set i v).foldl crcStep x = l.foldl crcStep x → l.getD i 0 = v
  | b :: l, 0, v, x, hb, _, v0, v1, x0, x1, h => by
    have hb' := hb b (by simp)
    have r1 := crcStep_range x b x0 x1 hb'.1 hb'.2
    have r2 := crcStep_range x v x0 x1 v0 v1
    have h1 : crcStep x v = crcStep x b := crcFold_inj l (fun y hy => hb y (by simp [hy])) r2.1 r2.2 r1.1 r1.2 h
    have h2 := crcStep_inj x0 x1 x0 x1 v0 v1 hb'.1 hb'.2 h1
    rw [xor_comm' x0 x1 v0 (by omega), xor_comm' x0 x1 hb'.1 (by omega)] at h2
    exact (xor_inj_l v0 (by omega) hb'.1 (by omega) x0 x1 h2).symm
  | b :: l, i + 1, v, x, hb, hi, v0, v1, x0, x1, h => by
    have hb' := hb b (by simp)
    have r1 := crcStep_range x b x0 x1 hb'.1 hb'.2
    exact crcFold_set l i v _ (fun y hy => hb y (by simp [hy])) (by simpa using hi) v0 v1 r1.1 r1.2 h
/-- The law of the checksum. -/
theorem crc_set (l : List Int) (i : Nat) (v : Int) (hb : isBytes l) (hi : i < l.length) (v0 : 0 ≤ v) (v1 : v < 256) (h : crc (l.set i v) = crc l) : l.getD i 0 = v := by
  unfold crc at h
  have hb2 : isBytes (l.set i v) := fun y hy => by
    rcases List.mem_or_eq_of_mem_set hy with h | rfl
    · exact hb y h
    · exact ⟨v0, v1⟩
  have r1 := crcFold_range l 4294967295 hb (by omega) (by omega)
  have r2 := crcFold_range (l.set i v) 4294967295 hb2 (by omega) (by omega)
  exact crcFold_set l i v _ hb hi v0 v1 (by omega) (by omega) (xor_inj_l r2.1 r2.2 r1.1 r1.2 (by omega) (by omega) h)
theorem crc_range (l : List Int) (hb : isBytes l) : 0 ≤ crc l ∧ crc l < 4294967296 := by
  have r1 := crcFold_range l 4294967295 hb (by omega) (by omega)
  exact xor_range _ _ r1.1 r1.2 (by omega) (by omega)
end Go.Proofs.Ytmanmgafjbnakaa.Pl
