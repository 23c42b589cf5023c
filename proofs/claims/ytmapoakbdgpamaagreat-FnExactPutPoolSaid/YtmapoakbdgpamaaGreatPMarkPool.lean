/- Crc, ReadW, Four, Draw, Crc1, Draw2, Put4, Txt, Join, PutPool, PutPool2, MarkPool. No condition. -/
import Derived.Test.YtmapoakbdgpamaaGreatPPoolOk3
/- The checksum, copies and comparisons of bytes. No condition. -/
namespace Go.Proofs.YtmapoakbdgpamaaGreat.Pl
open Go.Proofs.YtmapoakbdgpamaaGreat.R Go.Proofs.YtmapoakbdgpamaaGreat.XJ
set_option linter.unusedVariables false
set_option linter.unusedSimpArgs false

theorem rd_by (l : List Int) (i : Int) : rd_u8 l i = by_ l i := rfl
theorem drop_by (l : List Int) (i : Int) (h0 : 0 ≤ i) (h : i < l.length) : l.drop i.toNat = by_ l i :: l.drop (i.toNat + 1) := by
  have hn : i.toNat < l.length := by omega
  rw [List.drop_eq_getElem_cons hn]
  unfold by_
  rw [List.getD_eq_getElem?_getD, List.getElem?_eq_getElem hn]
  rfl
theorem fdiv2 (x : Int) : Int.fdiv x (2 ^ (min (Int.toNat (1 : Int)) (Go.IntKind.bits .i64))) = x / 2 := by
  show Int.fdiv x 2 = x / 2
  rw [Int.fdiv_eq_ediv_of_nonneg _ (by omega)]
theorem w64_by {l : List Int} (h : isBytes l) (i : Int) : Go.IntKind.wrap .i64 (by_ l i) = by_ l i := by
  have := by_range h i
  exact w64 (by omega) (by omega)
theorem tdiv2 (x : Int) (h : 0 ≤ x) : Int.tdiv x 2 = x / 2 := Int.tdiv_eq_ediv_of_nonneg h
theorem tmod2 (x : Int) (h : 0 ≤ x) : Int.tmod x 2 = x % 2 := Int.tmod_eq_emod_of_nonneg h
theorem eqByteS_refl (l : List Int) (hl : l.length ≤ 1099511627776) : F_laws_eqByteS (l, l) = some true := by
  unfold F_laws_eqByteS L_laws_eqByteS_4
  simp only [bne_self_eq_false, cond_false]
  rw [loop_fuel (fun t : List Int × List Int × Int => t.1.length - t.2.2.toNat) (fun t => t.1 = l ∧ t.2.1 = l ∧ 0 ≤ t.2.2 ∧ t.2.2 ≤ l.length) (fun _ => some true) ?_ (l, l, 0) ⟨rfl, rfl, by simp, by simp⟩ (by simp; omega)]
  rintro again ⟨a, b, i⟩ ⟨h1, h2, h0, h3⟩ hag
  simp only at h1 h2 h0 h3 ⊢
  subst h1 h2
  unfold S_laws_eqByteS_4
  simp only [Bool.cond_eq_ite, decide_eq_true_eq]
  by_cases hi : i < (b.length : Int)
  · have hw : Go.IntKind.wrap .i64 (i + 1) = i + 1 := w64 (by omega) (by omega)
    rw [if_pos hi, if_pos h0, if_pos hi, if_pos h0, if_pos hi, hw, hag (b, b, i + 1) ⟨rfl, rfl, by simp only; omega, by simp only; omega⟩ (by simp only; omega)]
    simp
  · rw [if_neg hi]
end Go.Proofs.YtmapoakbdgpamaaGreat.Pl

/- Words out of bytes. No condition. -/
namespace Go.Proofs.YtmapoakbdgpamaaGreat.Pl
open Go.Proofs.YtmapoakbdgpamaaGreat.R Go.Proofs.YtmapoakbdgpamaaGreat.XJ
set_option linter.unusedVariables false
set_option linter.unusedSimpArgs false

def w2 (l : List Int) (i : Int) : Int := by_ l i * 256 + by_ l (i + 1)
def getW (l : List Int) (i : Int) : Int × Int × Bool := if 0 ≤ i ∧ i + 2 ≤ l.length then (w2 l i, i + 2, true) else (0, 0, false)
theorem w2_range {l : List Int} (h : isBytes l) (i : Int) : 0 ≤ w2 l i ∧ w2 l i ≤ 65535 := by
  have h1 := by_range h i
  have h2 := by_range h (i + 1)
  unfold w2
  omega
theorem join8 (a b : Int) (h0 : 0 ≤ a) (h1 : a < 256) (hb0 : 0 ≤ b) (hb1 : b < 256) : bits .or .i64 (Go.IntKind.wrap .i64 (a * 2 ^ (min (Int.toNat (8 : Int)) (Go.IntKind.bits .i64)))) b = a * 256 + b := by
  show bits .or .i64 (Go.IntKind.wrap .i64 (a * 256)) b = a * 256 + b
  rw [w64 (by omega) (by omega)]
  exact or_join 8 (by omega) a b h0 (by show a * 256 < _; omega) hb0 hb1
end Go.Proofs.YtmapoakbdgpamaaGreat.Pl

/- Four bytes. No condition. -/
namespace Go.Proofs.YtmapoakbdgpamaaGreat.Pl
open Go.Proofs.YtmapoakbdgpamaaGreat.R Go.Proofs.YtmapoakbdgpamaaGreat.XJ
set_option linter.unusedVariables false
set_option linter.unusedSimpArgs false

def get4 (l : List Int) (i : Int) : Int := by_ l i * 16777216 + by_ l (i + 1) * 65536 + by_ l (i + 2) * 256 + by_ l (i + 3)
theorem sh8 : (2 : Int) ^ (min (Int.toNat (8 : Int)) (Go.IntKind.bits .i64)) = 256 := by decide
theorem sh16 : (2 : Int) ^ (min (Int.toNat (16 : Int)) (Go.IntKind.bits .i64)) = 65536 := by decide
theorem sh24 : (2 : Int) ^ (min (Int.toNat (24 : Int)) (Go.IntKind.bits .i64)) = 16777216 := by decide
theorem or8 (a b : Int) (h0 : 0 ≤ a) (h1 : a < 4294967296) (hb0 : 0 ≤ b) (hb1 : b < 256) : bits .or .i64 (a * 256) b = a * 256 + b := or_join 8 (by omega) a b h0 (by show a * 256 < _; omega) hb0 hb1
theorem or16 (a b : Int) (h0 : 0 ≤ a) (h1 : a < 4294967296) (hb0 : 0 ≤ b) (hb1 : b < 65536) : bits .or .i64 (a * 65536) b = a * 65536 + b := or_join 16 (by omega) a b h0 (by show a * 65536 < _; omega) hb0 hb1
theorem or24 (a b : Int) (h0 : 0 ≤ a) (h1 : a < 4294967296) (hb0 : 0 ≤ b) (hb1 : b < 16777216) : bits .or .i64 (a * 16777216) b = a * 16777216 + b := or_join 24 (by omega) a b h0 (by show a * 16777216 < _; omega) hb0 hb1
end Go.Proofs.YtmapoakbdgpamaaGreat.Pl

/- What is drawn: the cursor's steps never fail. No condition. -/
namespace Go.Proofs.YtmapoakbdgpamaaGreat.Pl
open Go.Proofs.YtmapoakbdgpamaaGreat.R Go.Proofs.YtmapoakbdgpamaaGreat.XJ
set_option linter.unusedVariables false
set_option linter.unusedSimpArgs false

/-- A cursor's place. -/
def curOk (c : List Int) (p : Int) : Prop := c.length ≤ 1099511627776 ∧ 0 ≤ p ∧ p ≤ c.length
/-- A step: it gives something, the code stays, the place stays right. -/
def gives {A : Type} (o : Option (A × List Int × Int × Int)) (c : List Int) (Q : A → Prop) : Prop := ∃ v p s, o = some (v, c, p, s) ∧ curOk c p ∧ Q v
end Go.Proofs.YtmapoakbdgpamaaGreat.Pl

/- One byte changed: the checksum is another. No condition. -/
namespace Go.Proofs.YtmapoakbdgpamaaGreat.Pl
open Go.Proofs.YtmapoakbdgpamaaGreat.R Go.Proofs.YtmapoakbdgpamaaGreat.XJ
set_option linter.unusedVariables false
set_option linter.unusedSimpArgs false

theorem xor_cast (x y : Int) (hx0 : 0 ≤ x) (hx1 : x < 4294967296) (hy0 : 0 ≤ y) (hy1 : y < 4294967296) : bits .xor .i64 x y = ((x.toNat ^^^ y.toNat : Nat) : Int) := by
  have := xor_nat x.toNat y.toNat (by omega) (by omega)
  rwa [Int.toNat_of_nonneg hx0, Int.toNat_of_nonneg hy0] at this
theorem xor_inj_l {x y b : Int} (hx0 : 0 ≤ x) (hx1 : x < 4294967296) (hy0 : 0 ≤ y) (hy1 : y < 4294967296) (hb0 : 0 ≤ b) (hb1 : b < 4294967296) (h : bits .xor .i64 x b = bits .xor .i64 y b) : x = y := by
  rw [xor_cast x b hx0 hx1 hb0 hb1, xor_cast y b hy0 hy1 hb0 hb1] at h
  have h1 : x.toNat ^^^ b.toNat = y.toNat ^^^ b.toNat := by exact_mod_cast h
  have h2 := congrArg (· ^^^ b.toNat) h1
  simp only [Nat.xor_assoc, Nat.xor_self, Nat.xor_zero] at h2
  omega
theorem xor_comm' {x y : Int} (hx0 : 0 ≤ x) (hx1 : x < 4294967296) (hy0 : 0 ≤ y) (hy1 : y < 4294967296) : bits .xor .i64 x y = bits .xor .i64 y x := by
  rw [xor_cast x y hx0 hx1 hy0 hy1, xor_cast y x hy0 hy1 hx0 hx1, Nat.xor_comm]
theorem xor_top {x : Int} (h0 : 0 ≤ x) (h1 : x < 2147483648) : 2147483648 ≤ bits .xor .i64 x 2197175160 := by
  rw [xor_cast x _ h0 (by omega) (by omega) (by omega)]
  have ht : (x.toNat ^^^ (2197175160 : Int).toNat).testBit 31 = true := by
    rw [Nat.testBit_xor, Nat.testBit_lt_two_pow (show x.toNat < 2 ^ 31 by omega)]
    decide
  have := Nat.ge_two_pow_of_testBit ht
  omega
theorem crcBit_inj {x y : Int} (hx0 : 0 ≤ x) (hx1 : x < 4294967296) (hy0 : 0 ≤ y) (hy1 : y < 4294967296) (h : crcBit x = crcBit y) : x = y := by
  unfold crcBit at h
  have tx := xor_top (x := x / 2) (by omega) (by omega)
  have ty := xor_top (x := y / 2) (by omega) (by omega)
  by_cases hx : x % 2 = 1
  · by_cases hy : y % 2 = 1
    · rw [if_pos hx, if_pos hy] at h
      have := xor_inj_l (x := x / 2) (y := y / 2) (by omega) (by omega) (by omega) (by omega) (by omega) (by omega) h
      omega
    · rw [if_pos hx, if_neg hy] at h
      omega
  · by_cases hy : y % 2 = 1
    · rw [if_neg hx, if_pos hy] at h
      omega
    · rw [if_neg hx, if_neg hy] at h
      omega
theorem crcBits_inj : ∀ (n : Nat) {x y : Int}, 0 ≤ x → x < 4294967296 → 0 ≤ y → y < 4294967296 → crcBits n x = crcBits n y → x = y
  | 0, x, y, _, _, _, _, h => h
  | n + 1, x, y, a, b, c, d, h => by
    have rx := crcBit_range x a b
    have ry := crcBit_range y c d
    exact crcBit_inj a b c d (crcBits_inj n rx.1 rx.2 ry.1 ry.2 h)
theorem crcStep_inj {x y b b' : Int} (hx0 : 0 ≤ x) (hx1 : x < 4294967296) (hy0 : 0 ≤ y) (hy1 : y < 4294967296) (hb0 : 0 ≤ b) (hb1 : b < 256) (hc0 : 0 ≤ b') (hc1 : b' < 256) (h : crcStep x b = crcStep y b') : bits .xor .i64 x b = bits .xor .i64 y b' := by
  unfold crcStep at h
  have r1 := xor_range x b hx0 hx1 hb0 (by omega)
  have r2 := xor_range y b' hy0 hy1 hc0 (by omega)
  exact crcBits_inj 8 r1.1 r1.2 r2.1 r2.2 h
theorem crcFold_range : ∀ (l : List Int) (x : Int), isBytes l → 0 ≤ x → x < 4294967296 → 0 ≤ l.foldl crcStep x ∧ l.foldl crcStep x < 4294967296
  | [], x, _, h0, h1 => ⟨h0, h1⟩
  | b :: l, x, hb, h0, h1 => by
    have hb' := hb b (by simp)
    have r := crcStep_range x b h0 h1 hb'.1 hb'.2
    exact crcFold_range l _ (fun y hy => hb y (by simp [hy])) r.1 r.2
theorem crcFold_inj : ∀ (l : List Int) {x y : Int}, isBytes l → 0 ≤ x → x < 4294967296 → 0 ≤ y → y < 4294967296 → l.foldl crcStep x = l.foldl crcStep y → x = y
  | [], x, y, _, _, _, _, _, h => h
  | b :: l, x, y, hb, a0, a1, c0, c1, h => by
    have hb' := hb b (by simp)
    have r1 := crcStep_range x b a0 a1 hb'.1 hb'.2
    have r2 := crcStep_range y b c0 c1 hb'.1 hb'.2
    have := crcFold_inj l (fun y hy => hb y (by simp [hy])) r1.1 r1.2 r2.1 r2.2 h
    exact xor_inj_l a0 a1 c0 c1 hb'.1 (by omega) (crcStep_inj a0 a1 c0 c1 hb'.1 hb'.2 hb'.1 hb'.2 this)
theorem crcFold_set : ∀ (l : List Int) (i : Nat) (v x : Int), isBytes l → i < l.length → 0 ≤ v → v < 256 → 0 ≤ x → x < 4294967296 → (l.set i v).foldl crcStep x = l.foldl crcStep x → l.getD i 0 = v
  | b :: l, 0, v, x, hb, _, v0, v1, x0, x1, h => by
    have hb' := hb b (by simp)
    have r1 := crcStep_range x b x0 x1 hb'.1 hb'.2
    have r2 := crcStep_range x v x0 x1 v0 v1
    have h1 : crcStep x v = crcStep x b := crcFold_inj l (fun y hy => hb y (by simp [hy])) r2.1 r2.2 r1.1 r1.2 h
    have h2 := crcStep_inj x0 x1 x0 x1 v0 v1 hb'.1 hb'.2 h1
    rw [xor_comm' x0 x1 v0 (by omega), xor_comm' x0 x1 hb'.1 (by omega)] at h2
    exact (xor_inj_l v0 (by omega) hb'.1 (by omega) x0 x1 h2).symm
  | b :: l, i + 1, v, x, hb, hi, v0, v1, x0, x1, h => by
    have hb' := hb b (by simp)
    have r1 := crcStep_range x b x0 x1 hb'.1 hb'.2
    exact crcFold_set l i v _ (fun y hy => hb y (by simp [hy])) (by simpa using hi) v0 v1 r1.1 r1.2 h
/-- The law of the checksum. -/
theorem crc_set (l : List Int) (i : Nat) (v : Int) (hb : isBytes l) (hi : i < l.length) (v0 : 0 ≤ v) (v1 : v < 256) (h : crc (l.set i v) = crc l) : l.getD i 0 = v := by
  unfold crc at h
  have hb2 : isBytes (l.set i v) := fun y hy => by
    rcases List.mem_or_eq_of_mem_set hy with h | rfl
    · exact hb y h
    · exact ⟨v0, v1⟩
  have r1 := crcFold_range l 4294967295 hb (by omega) (by omega)
  have r2 := crcFold_range (l.set i v) 4294967295 hb2 (by omega) (by omega)
  exact crcFold_set l i v _ hb hi v0 v1 (by omega) (by omega) (xor_inj_l r2.1 r2.2 r1.1 r1.2 (by omega) (by omega) h)
theorem crc_range (l : List Int) (hb : isBytes l) : 0 ≤ crc l ∧ crc l < 4294967296 := by
  have r1 := crcFold_range l 4294967295 hb (by omega) (by omega)
  exact xor_range _ _ r1.1 r1.2 (by omega) (by omega)
end Go.Proofs.YtmapoakbdgpamaaGreat.Pl

/- What is drawn: bytes bent, one byte turned. No condition. -/
namespace Go.Proofs.YtmapoakbdgpamaaGreat.Pl
open Go.Proofs.YtmapoakbdgpamaaGreat.R Go.Proofs.YtmapoakbdgpamaaGreat.XJ
set_option linter.unusedVariables false
set_option linter.unusedSimpArgs false

theorem wrap_u8 (n : Int) : Go.IntKind.wrap .u8 n = n % 256 := by
  simp [Go.IntKind.wrap, Go.IntKind.bits, Go.IntKind.signed]
theorem wrap_u8_range (n : Int) : 0 ≤ Go.IntKind.wrap .u8 n ∧ Go.IntKind.wrap .u8 n < 256 := by
  rw [wrap_u8]
  omega
theorem xor_u8 (x y : Int) (hx0 : 0 ≤ x) (hx1 : x < 256) (hy0 : 0 ≤ y) (hy1 : y < 256) : bits .xor .u8 x y = ((x.toNat ^^^ y.toNat : Nat) : Int) := by
  obtain ⟨a, rfl⟩ := Int.eq_ofNat_of_zero_le hx0
  obtain ⟨b, rfl⟩ := Int.eq_ofNat_of_zero_le hy0
  show IntKind.u8.wrap ((BitVec.ofInt 8 (a : Int) ^^^ BitVec.ofInt 8 (b : Int)).toNat : Int) = _
  rw [BitVec.toNat_xor, BitVec.ofInt_natCast, BitVec.ofInt_natCast, BitVec.toNat_ofNat, BitVec.toNat_ofNat, Nat.mod_eq_of_lt (by omega), Nat.mod_eq_of_lt (by omega), wrap_u8]
  have := Nat.xor_lt_two_pow (n := 8) (x := a) (y := b) (by omega) (by omega)
  simp only [Int.toNat_natCast]
  omega
theorem xor_u8_ne (x y : Int) (hx0 : 0 ≤ x) (hx1 : x < 256) (hy0 : 0 < y) (hy1 : y < 256) : 0 ≤ bits .xor .u8 x y ∧ bits .xor .u8 x y < 256 ∧ bits .xor .u8 x y ≠ x := by
  rw [xor_u8 x y hx0 hx1 (by omega) hy1]
  have := Nat.xor_lt_two_pow (n := 8) (x := x.toNat) (y := y.toNat) (by omega) (by omega)
  refine ⟨by omega, by omega, fun h => ?_⟩
  have h1 : x.toNat ^^^ y.toNat = x.toNat := by omega
  have h2 := congrArg (x.toNat ^^^ ·) h1
  simp only [← Nat.xor_assoc, Nat.xor_self, Nat.zero_xor] at h2
  omega
theorem xor_u8_range (x y : Int) (hx0 : 0 ≤ x) (hx1 : x < 256) (hy0 : 0 ≤ y) (hy1 : y < 256) : 0 ≤ bits .xor .u8 x y ∧ bits .xor .u8 x y < 256 := by
  rw [xor_u8 x y hx0 hx1 hy0 hy1]
  have := Nat.xor_lt_two_pow (n := 8) (x := x.toNat) (y := y.toNat) (by omega) (by omega)
  omega
theorem isBytes_set {l : List Int} (h : isBytes l) (i : Nat) {v : Int} (v0 : 0 ≤ v) (v1 : v < 256) : isBytes (l.set i v) := fun y hy => by
  rcases List.mem_or_eq_of_mem_set hy with h' | rfl
  · exact h y h'
  · exact ⟨v0, v1⟩
theorem cur0 (x : List Int) (hx : x.length ≤ 1099511627776) : curOk x 0 := ⟨hx, Int.le_refl _, by omega⟩
end Go.Proofs.YtmapoakbdgpamaaGreat.Pl

/- Words and fours as bytes. No condition. -/
namespace Go.Proofs.YtmapoakbdgpamaaGreat.Pl
open Go.Proofs.YtmapoakbdgpamaaGreat.R Go.Proofs.YtmapoakbdgpamaaGreat.XJ
set_option linter.unusedVariables false
set_option linter.unusedSimpArgs false

theorem fdiv8 (x : Int) : Int.fdiv x (2 ^ (min (Int.toNat (8 : Int)) (Go.IntKind.bits .i64))) = x / 256 := by
  rw [sh8, Int.fdiv_eq_ediv_of_nonneg _ (by omega)]
theorem fdiv16 (x : Int) : Int.fdiv x (2 ^ (min (Int.toNat (16 : Int)) (Go.IntKind.bits .i64))) = x / 65536 := by
  rw [sh16, Int.fdiv_eq_ediv_of_nonneg _ (by omega)]
theorem fdiv24 (x : Int) : Int.fdiv x (2 ^ (min (Int.toNat (24 : Int)) (Go.IntKind.bits .i64))) = x / 16777216 := by
  rw [sh24, Int.fdiv_eq_ediv_of_nonneg _ (by omega)]
def two (x : Int) : List Int := [x / 256 % 256, x % 256]
def four (x : Int) : List Int := [x / 16777216 % 256, x / 65536 % 256, x / 256 % 256, x % 256]
theorem spec_PutW_eq (l : List Int) (x : Int) (hl : l.length ≤ 1048576) : F_spec_PutW (l, x) = some (l ++ two x) := by
  unfold F_spec_PutW
  simp only [wrap_u8, fdiv8, List.nil_append, List.length_nil, List.length_cons]
  rw [if_pos (by omega), if_pos (by omega)]
  rfl
theorem joined2 (a b : List Int) (h : a.length + b.length ≤ 2097152) : F_impl_joined [a, b] = some (a ++ b) := by
  have hF : FUEL = (FUEL - 3) + 1 + 1 + 1 := by
    have := FUEL_eq
    omega
  unfold F_impl_joined L_impl_joined_3
  rw [hF]
  have s0 : ∀ again, S_impl_joined_3 (fun x1 => some x1) again ([a, b], (2 : Int), (0 : Int), ([] : List E_u8)) = again ([a, b], 2, 1, a) := by
    intro again
    unfold S_impl_joined_3
    have hw : Go.IntKind.wrap .i64 (0 + 1) = 1 := w64 (by omega) (by omega)
    have hr : rd_s_u8 [a, b] 0 = a := rfl
    simp only [hw, hr, List.length_nil, List.length_cons, List.nil_append]
    rw [if_pos (by omega), if_pos (by omega), if_pos (by omega)]
    rfl
  have s1 : ∀ again, S_impl_joined_3 (fun x1 => some x1) again ([a, b], (2 : Int), (1 : Int), a) = again ([a, b], 2, 2, a ++ b) := by
    intro again
    unfold S_impl_joined_3
    have hw : Go.IntKind.wrap .i64 (1 + 1) = 2 := w64 (by omega) (by omega)
    have hr : rd_s_u8 [a, b] 1 = b := rfl
    simp only [hw, hr, List.length_cons, List.length_nil]
    rw [if_pos (by omega), if_pos (by omega), if_pos (by omega)]
    rfl
  have s2 : ∀ again, S_impl_joined_3 (fun x1 => some x1) again ([a, b], (2 : Int), (2 : Int), a ++ b) = some (a ++ b) := by
    intro again
    unfold S_impl_joined_3
    rfl
  rw [show ((List.length [a, b] : Nat) : Int) = 2 from rfl, iter, s0, iter, s1, iter, s2]
theorem impl_PutW_eq (l : List Int) (x : Int) (hl : l.length ≤ 1048576) : F_impl_PutW (l, x) = some (l ++ two x) := by
  unfold F_impl_PutW
  simp only [wrap_u8, fdiv8, and255]
  rw [joined2 l _ (by simp only [List.length_cons, List.length_nil]; omega)]
  simp only [Option.bind_some, two]
  rw [show x / 256 % 256 % 256 = x / 256 % 256 by omega, show x % 256 % 256 = x % 256 by omega]
theorem four_bytes (x : Int) : isBytes (four x) := by
  intro y hy
  simp only [four, List.mem_cons, List.mem_nil_iff, or_false] at hy
  rcases hy with h | h | h | h <;> subst h <;> omega
theorem isBytes_append {l m : List Int} (h : isBytes l) (h' : isBytes m) : isBytes (l ++ m) := fun x hx => (List.mem_append.1 hx).elim (h x) (h' x)
theorem by_set (l : List Int) (i : Nat) (v j : Int) (hj : j.toNat ≠ i) : by_ (l.set i v) j = by_ l j := by
  unfold by_
  rw [List.getD_eq_getElem?_getD, List.getD_eq_getElem?_getD, List.getElem?_set_ne (fun e => hj e.symm)]
theorem by_set_self (l : List Int) (i : Nat) (v : Int) (hi : i < l.length) : by_ (l.set i v) (i : Int) = v := by
  unfold by_
  rw [List.getD_eq_getElem?_getD, Int.toNat_natCast, List.getElem?_set_self hi]
  rfl
end Go.Proofs.YtmapoakbdgpamaaGreat.Pl

/- Texts as bytes. No condition. -/
namespace Go.Proofs.YtmapoakbdgpamaaGreat.Pl
open Go.Proofs.YtmapoakbdgpamaaGreat.R Go.Proofs.YtmapoakbdgpamaaGreat.XJ
set_option linter.unusedVariables false
set_option linter.unusedSimpArgs false

/-! ### Texts as bytes -/
theorem bytesL_len (s : ByteArray) : (bytesL s).length = s.size := by
  unfold bytesL
  rw [List.length_map, Array.length_toList]
  rfl
theorem bytesL_bytes (s : ByteArray) : isBytes (bytesL s) := by
  intro x hx
  unfold bytesL at hx
  obtain ⟨b, _, rfl⟩ := List.mem_map.1 hx
  have := b.toNat_lt
  omega
theorem textOf_bytesL (s : ByteArray) : textOf (bytesL s) = s := by
  unfold textOf bytesL
  rw [List.map_map]
  have : (List.map ((fun n : Int => UInt8.ofNat n.toNat) ∘ fun b : UInt8 => (b.toNat : Int)) s.data.toList) = s.data.toList := by
    conv => rhs; rw [← List.map_id s.data.toList]
    refine List.map_congr_left fun b _ => ?_
    simp
  rw [this]
theorem bytesL_textOf (l : List Int) (hb : isBytes l) : bytesL (textOf l) = l := by
  unfold textOf bytesL
  simp only [List.map_map]
  conv => rhs; rw [← List.map_id l]
  refine List.map_congr_left fun x hx => ?_
  have := hb x hx
  simp only [Function.comp, id]
  rw [UInt8.toNat_ofNat']
  omega
theorem two_bytes (x : Int) : isBytes (two x) := by
  intro y hy
  simp only [two, List.mem_cons, List.mem_nil_iff, or_false] at hy
  rcases hy with h | h <;> subst h <;> omega
def tx (s : ByteArray) : List Int := two (s.size : Int) ++ bytesL s
theorem tx_len (s : ByteArray) : (tx s).length = 2 + s.size := by
  unfold tx
  rw [List.length_append, bytesL_len]
  rfl
theorem tx_bytes (s : ByteArray) : isBytes (tx s) := isBytes_append (two_bytes _) (bytesL_bytes s)
theorem spec_PutText_eq (l : List Int) (s : ByteArray) (hl : l.length ≤ 1000000) (hs : s.size ≤ 60) : F_spec_PutText (l, s) = some (l ++ tx s) := by
  unfold F_spec_PutText
  simp only
  rw [show decide (((ByteArray.size s : Nat) : Int) > (60 : Int)) = false from decide_eq_false (by omega), cond_false, spec_PutW_eq l _ (by omega)]
  simp only [Option.bind_some]
  have h2 : (l ++ two (s.size : Int)).length = l.length + 2 := by rw [List.length_append]; rfl
  rw [if_pos (by rw [show List.length (bytesL s) = s.size from bytesL_len s]; omega), List.append_assoc]
  rfl
theorem impl_PutText_eq (l : List Int) (s : ByteArray) (hl : l.length ≤ 1000000) (hs : s.size ≤ 60) : F_impl_PutText (l, s) = some (l ++ tx s) := by
  unfold F_impl_PutText
  simp only
  rw [show decide (((ByteArray.size s : Nat) : Int) > (60 : Int)) = false from decide_eq_false (by omega), cond_false, impl_PutW_eq l _ (by omega)]
  simp only [Option.bind_some]
  have h2 : (l ++ two (s.size : Int)).length = l.length + 2 := by rw [List.length_append]; rfl
  rw [if_pos (by omega), joined2 _ _ (by rw [show List.length (bytesL s) = s.size from bytesL_len s]; omega)]
  simp only [Option.bind_some, List.append_assoc]
  rfl
end Go.Proofs.YtmapoakbdgpamaaGreat.Pl

/- Appending loops; joining one row. No condition. -/
namespace Go.Proofs.YtmapoakbdgpamaaGreat.Pl
open Go.Proofs.YtmapoakbdgpamaaGreat.R Go.Proofs.YtmapoakbdgpamaaGreat.XJ
set_option linter.unusedVariables false
set_option linter.unusedSimpArgs false

/-- A loop that appends a list's elements, one by one, to a list that begins as none. -/
theorem app_loop {T A R : Type} {step : (T → Option R) → T → Option R} (da : A) (l : List A) (St0 : Int → T) (St1 : Int → List A → T) (k0 : Option R) (k1 : List A → Option R) (hl : l.length ≤ 1099511627776)
    (h0 : ∀ again i, 0 ≤ i → i < ((List.length l : Nat) : Int) → step again (St0 i) = again (St1 (i + 1) [l.getD i.toNat da]))
    (h1 : ∀ again i o, 0 ≤ i → i < ((List.length l : Nat) : Int) → List.length o ≤ List.length l → step again (St1 i o) = again (St1 (i + 1) (o ++ [l.getD i.toNat da])))
    (hd0 : ∀ again i, ¬ i < ((List.length l : Nat) : Int) → step again (St0 i) = k0)
    (hd1 : ∀ again i o, ¬ i < ((List.length l : Nat) : Int) → step again (St1 i o) = k1 o) : iter step FUEL (St0 0) = if l.length = 0 then k0 else k1 l := by
  have key : ∀ (m : Nat) (i : Int), 0 ≤ i → i ≤ l.length → l.length - i.toNat < m → iter step m (St1 i (l.take i.toNat)) = k1 l := by
    intro m
    induction m with
    | zero => intro i _ _ h; omega
    | succ m ih =>
      intro i i0 i1 hm
      rw [iter]
      by_cases hi : i < ((List.length l : Nat) : Int)
      · have e1 : (i + 1).toNat = i.toNat + 1 := by omega
        have e2 : l.take i.toNat ++ [l.getD i.toNat da] = l.take (i + 1).toNat := by
          rw [e1, List.take_succ_eq_append_getElem (by omega), getD_get da l i i0 hi]
        rw [h1 _ i _ i0 hi (by rw [List.length_take]; omega), e2]
        exact ih (i + 1) (by omega) (by omega) (by omega)
      · rw [hd1 _ i _ hi, List.take_of_length_le (by omega)]
  have hF : FUEL = (FUEL - 1) + 1 := by
    have := FUEL_eq
    omega
  rw [hF, iter]
  by_cases h : l.length = 0
  · rw [if_pos h, hd0 _ 0 (by omega)]
  · rw [if_neg h, h0 _ 0 (Int.le_refl _) (by omega)]
    have e : [l.getD (0 : Int).toNat da] = l.take (0 + 1 : Int).toNat := by
      cases l with
      | nil => simp at h
      | cons a l => rfl
    rw [e]
    exact key _ _ (by omega) (by omega) (by
      have := FUEL_eq
      omega)
theorem joinedOne (a : List Int) (h : a.length ≤ 2097152) : F_impl_joined [a] = some a := by
  have hF : FUEL = (FUEL - 2) + 1 + 1 := by
    have := FUEL_eq
    omega
  unfold F_impl_joined L_impl_joined_3
  rw [hF]
  have s0 : ∀ again, S_impl_joined_3 (fun x1 => some x1) again ([a], (1 : Int), (0 : Int), ([] : List E_u8)) = again ([a], 1, 1, a) := by
    intro again
    unfold S_impl_joined_3
    have hw : Go.IntKind.wrap .i64 (0 + 1) = 1 := w64 (by omega) (by omega)
    have hr : rd_s_u8 [a] 0 = a := rfl
    simp only [hw, hr, List.length_nil, List.length_cons, List.nil_append]
    rw [if_pos (by omega), if_pos (by omega), if_pos (by omega)]
    rfl
  have s1 : ∀ again, S_impl_joined_3 (fun x1 => some x1) again ([a], (1 : Int), (1 : Int), a) = some a := by
    intro again
    unfold S_impl_joined_3
    rfl
  rw [show ((List.length [a] : Nat) : Int) = 1 from rfl, iter, s0, iter, s1]
end Go.Proofs.YtmapoakbdgpamaaGreat.Pl

/- A pool as bytes: both sides. No condition. -/
namespace Go.Proofs.YtmapoakbdgpamaaGreat.Pl
open Go.Proofs.YtmapoakbdgpamaaGreat.R Go.Proofs.YtmapoakbdgpamaaGreat.XJ
set_option linter.unusedVariables false
set_option linter.unusedSimpArgs false

/-! ### Loops that append bytes -/
def catI {A : Type} (f : Int → A → List Int) : List A → Int → List Int
  | [], _ => []
  | a :: l, i => f i a ++ catI f l (i + 1)
theorem catI_len {A : Type} (f : Int → A → List Int) (m : Nat) : ∀ (l : List A) (i : Int), (∀ a ∈ l, ∀ j, (f j a).length ≤ m) → (catI f l i).length ≤ l.length * m
  | [], _, _ => by simp [catI]
  | a :: l, i, h => by
    have h1 := catI_len f m l (i + 1) fun b hb => h b (by simp [hb])
    have h2 := h a (by simp) i
    rw [catI, List.length_append, List.length_cons, Nat.add_mul]
    omega
theorem cat_loop {T A R : Type} {step : (T → Option R) → T → Option R} (da : A) (f : Int → A → List Int) (l : List A) (St : Int → List Int → T) (k : List Int → Option R) (M : Nat) (hl : l.length ≤ 1099511627776)
    (h : ∀ again i o, 0 ≤ i → i < ((List.length l : Nat) : Int) → List.length o + (f i (l.getD i.toNat da)).length ≤ M → l.getD i.toNat da ∈ l → step again (St i o) = again (St (i + 1) (o ++ f i (l.getD i.toNat da))))
    (hd : ∀ again i o, ¬ i < ((List.length l : Nat) : Int) → step again (St i o) = k o)
    (o : List Int) (hM : List.length o + (catI f l 0).length ≤ M) : iter step FUEL (St 0 o) = k (o ++ catI f l 0) := by
  have key : ∀ (m : Nat) (i : Int) (o : List Int), 0 ≤ i → i ≤ l.length → l.length - i.toNat < m → List.length o + (catI f (l.drop i.toNat) i).length ≤ M → iter step m (St i o) = k (o ++ catI f (l.drop i.toNat) i) := by
    intro m
    induction m with
    | zero => intro i o _ _ h; omega
    | succ m ih =>
      intro i o i0 i1 hm hb
      rw [iter]
      by_cases hi : i < ((List.length l : Nat) : Int)
      · rw [drop_getD da l i i0 hi] at hb ⊢
        rw [catI, List.length_append] at hb
        rw [h _ i o i0 hi (by omega) (getD_mem da l i i0 hi), ih (i + 1) _ (by omega) (by omega) (by omega) (by rw [List.length_append]; omega), catI, List.append_assoc]
      · rw [hd _ i o hi, List.drop_of_length_le (by omega)]
        simp [catI]
  have := key FUEL 0 o (Int.le_refl _) (by omega) (by
    have := FUEL_eq
    omega) hM
  exact this
/-! ### What is written -/
def b8 (x : Int) : Int := Go.IntKind.wrap .u8 x
def bit (b : Bool) : Int := if b = true then 1 else 0
def encAge (_ : Int) (a : E_Age) : List Int := [b8 a.1, b8 a.2]
def encVol (_ : Int) (v : E_Vol) : List Int := tx v.1 ++ [b8 v.2.1, b8 v.2.2.1, bit v.2.2.2]
def encCell (_ : Int) (c : E_Cell) : List Int := two c.1 ++ ([bit c.2.1] ++ two c.2.2)
def encKey (_ : Int) (k : E_Key) : List Int := [b8 k.1, b8 k.2.1, b8 k.2.2.1, b8 k.2.2.2.1] ++ two k.2.2.2.2
def encSet (_ : Int) (l : E_s_Key) : List Int := [b8 ((List.length l : Nat) : Int)] ++ catI encKey l 0
def encNode (q : List Int) (i : Int) (n : E_Node) : List Int := two (q.getD i.toNat 0) ++ ([b8 ((List.length n : Nat) : Int)] ++ catI encSet n 0)
def encPool (q : List Int) (t : List E_Node) (l : List E_Age) (cs : List E_Cell) (vs : List E_Vol) (z : Int) : List Int :=
  ((((((two z ++ [b8 ((List.length l : Nat) : Int)]) ++ catI encAge l 0) ++ [b8 ((List.length vs : Nat) : Int)]) ++ catI encVol vs 0) ++ catI encCell cs 0) ++ [b8 ((List.length t : Nat) : Int)]) ++ catI (encNode q) t 0
/-- What the bytes need to be few. -/
structure PoolF (q : List Int) (t : List E_Node) (l : List E_Age) (cs : List E_Cell) (vs : List E_Vol) : Prop where
  ql : q.length = t.length
  tl : t.length ≤ 20
  ll : l.length ≤ 16
  cl : cs.length = 24
  vl : vs.length ≤ 6
  nm : ∀ v ∈ vs, ByteArray.size v.1 ≤ 6
  nl : ∀ n ∈ t, List.length n ≤ 3
  sl : ∀ n ∈ t, ∀ s ∈ (show List E_s_Key from n), List.length s ≤ 60 ∧ ∀ k ∈ (show List E_Key from s), keyOkK k = true
theorem anyE_ex {A : Type} (p : Int → A → Bool) : ∀ (l : List A) (i : Int), anyE p l i = false → ∀ a ∈ l, ∃ j, p j a = false
  | [], _, _, a, h => by simp at h
  | b :: l, i, h, a, ha => by
    simp only [anyE, Bool.or_eq_false_iff] at h
    rcases List.mem_cons.1 ha with rfl | ha
    · exact ⟨i, h.1⟩
    · exact anyE_ex p l (i + 1) h.2 a ha
theorem setOkK_f {s : List E_Key} (h : setOkK s = true) : s.length ≤ 60 ∧ ∀ k ∈ s, keyOkK k = true := by
  unfold setOkK at h
  simp only [Bool.and_eq_true, Bool.not_eq_true', decide_eq_true_eq] at h
  refine ⟨by omega, fun k hk => ?_⟩
  obtain ⟨j, hj⟩ := anyE_ex _ s 0 h.1 k hk
  simpa using hj
theorem nodeOkK_f {n : List E_s_Key} (h : nodeOkK n = true) : n.length ≤ 3 ∧ ∀ s ∈ n, setOkK s = true := by
  unfold nodeOkK at h
  simp only [Bool.and_eq_true, Bool.not_eq_true', decide_eq_true_eq] at h
  refine ⟨by omega, fun s hs => ?_⟩
  obtain ⟨j, hj⟩ := anyE_ex _ n 0 h.1 s hs
  unfold badSet at hj
  simp only [Bool.or_eq_false_iff, Bool.not_eq_false'] at hj
  exact hj.1
theorem treeOkK_f {q : List Int} {t : List E_Node} (h : treeOkK q t = true) : q.length = t.length ∧ 1 ≤ t.length ∧ t.length ≤ 20 ∧ ∀ n ∈ t, nodeOkK n = true := by
  unfold treeOkK at h
  simp only [Bool.and_eq_true, Bool.not_eq_true', decide_eq_true_eq, inR_iff] at h
  obtain ⟨h1, h2, _, h3, _⟩ := h
  refine ⟨h2, by omega, by omega, fun n hn => ?_⟩
  obtain ⟨j, hj⟩ := anyE_ex _ t 0 h3 n hn
  unfold badNode at hj
  simp only [Bool.or_eq_false_iff, Bool.not_eq_false'] at hj
  have h4 := hj.2
  unfold nodeB at h4
  simp only [Bool.and_eq_true] at h4
  exact h4.1
theorem poolF {q : List Int} {t : List E_Node} {l : List E_Age} {cs : List E_Cell} {vs : List E_Vol} {z : Int} (h : poolOkK q t l cs vs z = true) : PoolF q t l cs vs := by
  unfold poolOkK at h
  simp only [Bool.and_eq_true] at h
  obtain ⟨h1, h2, h3, _, _, h4, _⟩ := h
  obtain ⟨t1, t2, t3, t4⟩ := treeOkK_f h1
  unfold agesOkK at h2
  unfold cellsOkK at h3
  unfold volsOkK at h4
  simp only [Bool.and_eq_true, Bool.not_eq_true', decide_eq_true_eq, beq_iff_eq] at h2 h3 h4
  refine ⟨t1, t3, by omega, by omega, by omega, fun v hv => ?_, fun n hn => (nodeOkK_f (t4 n hn)).1, fun n hn s hs => setOkK_f ((nodeOkK_f (t4 n hn)).2 s hs)⟩
  obtain ⟨j, hj⟩ := anyE_ex _ vs 0 h4.1 v hv
  unfold volB at hj
  simp only [Bool.or_eq_false_iff, Bool.not_eq_false'] at hj
  have hn := hj.1
  unfold nameOk at hn
  simp only [Bool.and_eq_true, inR_iff] at hn
  omega
theorem encKey_len (i : Int) (k : E_Key) : (encKey i k).length = 6 := rfl
theorem encSet_len (i : Int) (s : E_s_Key) (h : List.length s ≤ 60) : (encSet i s).length ≤ 361 := by
  have h1 := catI_len encKey 6 s 0 fun a _ j => Nat.le_refl _
  unfold encSet
  rw [List.length_append]
  simp only [List.length_cons, List.length_nil]
  omega
theorem sets_len (n : E_Node) (h1 : List.length n ≤ 3) (h2 : ∀ s ∈ (show List E_s_Key from n), List.length s ≤ 60) : (catI encSet n 0).length ≤ 1083 := by
  have h3 := catI_len encSet 361 n 0 fun s hs j => encSet_len j s (h2 s hs)
  have h4 : List.length n * 361 ≤ 3 * 361 := Nat.mul_le_mul_right _ h1
  omega
theorem encNode_len (q : List Int) (i : Int) (n : E_Node) (h1 : List.length n ≤ 3) (h2 : ∀ s ∈ (show List E_s_Key from n), List.length s ≤ 60) : (encNode q i n).length ≤ 1086 := by
  have h3 := sets_len n h1 h2
  unfold encNode
  rw [List.length_append, List.length_append]
  simp only [two, List.length_cons, List.length_nil]
  omega
section
variable {q : List Int} {t : List E_Node} {l : List E_Age} {cs : List E_Cell} {vs : List E_Vol} (z : Int) (h : PoolF q t l cs vs)
include h
theorem ages_len : (catI encAge l 0).length ≤ 32 := by
  have h1 := catI_len encAge 2 l 0 fun a _ j => Nat.le_refl _
  have := h.ll
  omega
theorem vols_len : (catI encVol vs 0).length ≤ 66 := by
  have h1 := catI_len encVol 11 vs 0 fun v hv j => by
    have := h.nm v hv
    unfold encVol
    rw [List.length_append, tx_len]
    simp only [List.length_cons, List.length_nil]
    omega
  have := h.vl
  omega
theorem cells_len : (catI encCell cs 0).length ≤ 120 := by
  have h1 := catI_len encCell 5 cs 0 fun c _ j => Nat.le_refl _
  have := h.cl
  omega
theorem nodes_len : (catI (encNode q) t 0).length ≤ 21720 := by
  have h1 := catI_len (encNode q) 1086 t 0 fun n hn j => encNode_len q j n (h.nl n hn) fun s hs => (h.sl n hn s hs).1
  have := h.tl
  omega
end
theorem bit_eq (b : Bool) : (bif b then some (1 : Int) else some (0 : Int)) = some (bit b) := by cases b <;> rfl
theorem spec_bit_eq (b : Bool) : F_spec_l16Bit b = some (bit b) := bit_eq b
theorem impl_bit_eq (b : Bool) : F_impl_flag b = some (bit b) := bit_eq b
/-! ### Keys and sets -/
theorem spec_PutKey_eq (o : List Int) (k : E_Key) (hk : keyOkK k = true) (ho : o.length ≤ 1000000) : F_spec_PutKey (o, k.1, k.2.1, k.2.2.1, k.2.2.2.1, k.2.2.2.2) = some (o ++ encKey 0 k) := by
  unfold F_spec_PutKey
  simp only [spec_KeyOk_eq, Option.bind_some]
  rw [if_pos (by simp only [List.length_nil]; omega), show keyOkK (k.1, k.2.1, k.2.2.1, k.2.2.2.1, k.2.2.2.2) = true from hk]
  simp only [Bool.not_true, cond_false, List.nil_append, List.length_cons, List.length_nil]
  rw [if_pos (by omega), spec_PutW_eq _ _ (by simp only [List.length_append, List.length_cons, List.length_nil]; omega)]
  simp only [Option.bind_some, List.append_assoc]
  rfl
theorem impl_PutKey_eq (o : List Int) (k : E_Key) (hk : keyOkK k = true) (ho : o.length ≤ 1000000) : F_impl_PutKey (o, k.1, k.2.1, k.2.2.1, k.2.2.2.1, k.2.2.2.2) = some (o ++ encKey 0 k) := by
  unfold F_impl_PutKey
  simp only [impl_KeyOk_eq, joinedOne o (by omega), Option.bind_some]
  rw [show keyOkK (k.1, k.2.1, k.2.2.1, k.2.2.2.1, k.2.2.2.2) = true from hk]
  simp only [Bool.not_true, cond_false, List.length_cons, List.length_nil]
  rw [if_pos (by omega), impl_PutW_eq _ _ (by simp only [List.length_append, List.length_cons, List.length_nil]; omega)]
  simp only [Option.bind_some, List.append_assoc]
  rfl
theorem spec_Set_eq (o : List Int) (s : E_s_Key) (hs : List.length s ≤ 60) (hk : ∀ k ∈ (show List E_Key from s), keyOkK k = true) (ho : o.length ≤ 900000) : F_spec_l16Set (o, s) = some (o ++ encSet 0 s) := by
  have hlen := catI_len encKey 6 s 0 fun a _ j => Nat.le_refl _
  unfold F_spec_l16Set L_spec_l16Set_3
  simp only [List.length_cons, List.length_nil]
  rw [if_pos (by omega)]
  refine (cat_loop (step := S_spec_l16Set_3 _) z_Key encKey s (fun i o => (s, i, o)) (fun o => some o) 1000000 (by omega) ?_ ?_ _ (by rw [List.length_append]; simp only [List.length_cons, List.length_nil]; omega)).trans ?_
  · intro again i o h0 h1 hb hm
    have hw : Go.IntKind.wrap .i64 (i + 1) = i + 1 := w64 (by omega) (by omega)
    have he := spec_PutKey_eq o (rd_Key s i) (hk _ hm) (by omega)
    unfold S_spec_l16Set_3
    simp only [Bool.cond_eq_ite, decide_eq_true_eq, h0, h1, if_true, hw, he, Option.bind_some]
    rfl
  · intro again i o hi
    unfold S_spec_l16Set_3
    simp only [Bool.cond_eq_ite, decide_eq_true_eq, if_neg hi]
  · rw [List.append_assoc]
    rfl
end Go.Proofs.YtmapoakbdgpamaaGreat.Pl

/- A pool as bytes: PutPool on both sides. No condition. -/
namespace Go.Proofs.YtmapoakbdgpamaaGreat.Pl
open Go.Proofs.YtmapoakbdgpamaaGreat.R Go.Proofs.YtmapoakbdgpamaaGreat.XJ
set_option linter.unusedVariables false
set_option linter.unusedSimpArgs false

abbrev PT : Type := List E_i64 × List E_Node × List E_Age × List E_Cell × List E_Vol × Int × List E_u8
section
variable {R : Type} (q : List E_i64) (t : List E_Node) (l : List E_Age) (cs : List E_Cell) (vs : List E_Vol) (z : Int) (o : List E_u8)
theorem spec_pp6 (k0 : PT → Option R) (hl : l.length ≤ 1000) (hM : List.length o + (catI encAge l 0).length ≤ 900000) : L_spec_PutPool_6 k0 (0, q, t, l, cs, vs, z, o) = k0 (q, t, l, cs, vs, z, o ++ catI encAge l 0) := by
  unfold L_spec_PutPool_6
  refine cat_loop (step := S_spec_PutPool_6 k0) z_Age encAge l (fun i o => (i, q, t, l, cs, vs, z, o)) (fun o => k0 (q, t, l, cs, vs, z, o)) 900000 (by omega) ?_ ?_ o hM
  · intro again i o h0 h1 hb hm
    have hw : Go.IntKind.wrap .i64 (i + 1) = i + 1 := w64 (by omega) (by omega)
    unfold S_spec_PutPool_6
    simp only [Bool.cond_eq_ite, decide_eq_true_eq, h0, h1, if_true, hw]
    rw [if_pos (by simp only [List.length_cons, List.length_nil]; omega)]
    rfl
  · intro again i o hi
    unfold S_spec_PutPool_6
    simp only [Bool.cond_eq_ite, decide_eq_true_eq, if_neg hi]
theorem impl_pp5 (k0 : PT → Option R) (hl : l.length ≤ 1000) (hM : List.length o + (catI encAge l 0).length ≤ 900000) : L_impl_PutPool_5 k0 (l, ((List.length l : Nat) : Int), 0, q, t, l, cs, vs, z, o) = k0 (q, t, l, cs, vs, z, o ++ catI encAge l 0) := by
  unfold L_impl_PutPool_5
  refine cat_loop (step := S_impl_PutPool_5 k0) z_Age encAge l (fun i o => (l, ((List.length l : Nat) : Int), i, q, t, l, cs, vs, z, o)) (fun o => k0 (q, t, l, cs, vs, z, o)) 900000 (by omega) ?_ ?_ o hM
  · intro again i o h0 h1 hb hm
    have hw : Go.IntKind.wrap .i64 (i + 1) = i + 1 := w64 (by omega) (by omega)
    unfold S_impl_PutPool_5
    simp only [Bool.cond_eq_ite, decide_eq_true_eq, h0, h1, if_true, hw]
    rw [if_pos (by simp only [List.length_cons, List.length_nil]; omega)]
    rfl
  · intro again i o hi
    unfold S_impl_PutPool_5
    simp only [Bool.cond_eq_ite, decide_eq_true_eq, if_neg hi]
theorem encVol_at (o : List Int) (v : E_Vol) (i : Int) : (o ++ tx v.1) ++ [b8 v.2.1, b8 v.2.2.1, bit v.2.2.2] = o ++ encVol i v := List.append_assoc ..
theorem spec_pp11 (k0 : PT → Option R) (hl : vs.length ≤ 1000) (hv : ∀ v ∈ vs, ByteArray.size v.1 ≤ 6) (hM : List.length o + (catI encVol vs 0).length ≤ 900000) : L_spec_PutPool_11 k0 (0, q, t, l, cs, vs, z, o) = k0 (q, t, l, cs, vs, z, o ++ catI encVol vs 0) := by
  unfold L_spec_PutPool_11
  refine cat_loop (step := S_spec_PutPool_11 k0) z_Vol encVol vs (fun i o => (i, q, t, l, cs, vs, z, o)) (fun o => k0 (q, t, l, cs, vs, z, o)) 900000 (by omega) ?_ ?_ o hM
  · intro again i o h0 h1 hb hm
    have hw : Go.IntKind.wrap .i64 (i + 1) = i + 1 := w64 (by omega) (by omega)
    have hs := hv _ hm
    have he := spec_PutText_eq o (rd_Vol vs i).1 (by omega) (Nat.le_trans hs (by decide))
    have ht : List.length (o ++ tx (rd_Vol vs i).1) ≤ 900100 := by
      rw [List.length_append, tx_len]
      have : ByteArray.size (rd_Vol vs i).1 ≤ 6 := hs
      omega
    unfold S_spec_PutPool_11
    simp only [Bool.cond_eq_ite, decide_eq_true_eq, h0, h1, if_true, hw, he, spec_bit_eq, Option.bind_some]
    rw [if_pos (by simp only [List.length_cons, List.length_nil]; omega)]
    exact congrArg (fun o' => again (i + 1, q, t, l, cs, vs, z, o')) (encVol_at o (rd_Vol vs i) i)
  · intro again i o hi
    unfold S_spec_PutPool_11
    simp only [Bool.cond_eq_ite, decide_eq_true_eq, if_neg hi]
theorem impl_pp11 (k0 : PT → Option R) (hl : vs.length ≤ 1000) (hv : ∀ v ∈ vs, ByteArray.size v.1 ≤ 6) (hM : List.length o + (catI encVol vs 0).length ≤ 900000) : L_impl_PutPool_11 k0 (vs, ((List.length vs : Nat) : Int), 0, q, t, l, cs, vs, z, o) = k0 (q, t, l, cs, vs, z, o ++ catI encVol vs 0) := by
  unfold L_impl_PutPool_11
  refine cat_loop (step := S_impl_PutPool_11 k0) z_Vol encVol vs (fun i o => (vs, ((List.length vs : Nat) : Int), i, q, t, l, cs, vs, z, o)) (fun o => k0 (q, t, l, cs, vs, z, o)) 900000 (by omega) ?_ ?_ o hM
  · intro again i o h0 h1 hb hm
    have hw : Go.IntKind.wrap .i64 (i + 1) = i + 1 := w64 (by omega) (by omega)
    have hs := hv _ hm
    have he := impl_PutText_eq o (rd_Vol vs i).1 (by omega) (Nat.le_trans hs (by decide))
    have ht : List.length (o ++ tx (rd_Vol vs i).1) ≤ 900100 := by
      rw [List.length_append, tx_len]
      have : ByteArray.size (rd_Vol vs i).1 ≤ 6 := hs
      omega
    unfold S_impl_PutPool_11
    simp only [Bool.cond_eq_ite, decide_eq_true_eq, h0, h1, if_true, hw, he, impl_bit_eq, Option.bind_some]
    rw [if_pos (by simp only [List.length_cons, List.length_nil]; omega)]
    exact congrArg (fun o' => again (vs, ((List.length vs : Nat) : Int), i + 1, q, t, l, cs, vs, z, o')) (encVol_at o (rd_Vol vs i) i)
  · intro again i o hi
    unfold S_impl_PutPool_11
    simp only [Bool.cond_eq_ite, decide_eq_true_eq, if_neg hi]
theorem encCell_at (o : List Int) (c : E_Cell) (i : Int) : ((o ++ two c.1) ++ [bit c.2.1]) ++ two c.2.2 = o ++ encCell i c := by
  unfold encCell
  simp only [List.append_assoc]
theorem spec_pp16 (k0 : PT → Option R) (hl : cs.length ≤ 1000) (hM : List.length o + (catI encCell cs 0).length ≤ 900000) : L_spec_PutPool_16 k0 (0, q, t, l, cs, vs, z, o) = k0 (q, t, l, cs, vs, z, o ++ catI encCell cs 0) := by
  unfold L_spec_PutPool_16
  refine cat_loop (step := S_spec_PutPool_16 k0) z_Cell encCell cs (fun i o => (i, q, t, l, cs, vs, z, o)) (fun o => k0 (q, t, l, cs, vs, z, o)) 900000 (by omega) ?_ ?_ o hM
  · intro again i o h0 h1 hb hm
    have hw : Go.IntKind.wrap .i64 (i + 1) = i + 1 := w64 (by omega) (by omega)
    have he := spec_PutW_eq o (rd_Cell cs i).1 (by omega)
    have hlen : List.length (o ++ two (rd_Cell cs i).1) = List.length o + 2 := by rw [List.length_append]; rfl
    have hlen2 : List.length ((o ++ two (rd_Cell cs i).1) ++ [bit (rd_Cell cs i).2.1]) = List.length o + 3 := by rw [List.length_append, hlen]; rfl
    have he2 := spec_PutW_eq ((o ++ two (rd_Cell cs i).1) ++ [bit (rd_Cell cs i).2.1]) (rd_Cell cs i).2.2 (by omega)
    unfold S_spec_PutPool_16
    simp only [Bool.cond_eq_ite, decide_eq_true_eq, h0, h1, if_true, hw, he, spec_bit_eq, Option.bind_some]
    rw [if_pos (by simp only [List.length_cons, List.length_nil]; omega), he2]
    exact congrArg (fun o' => again (i + 1, q, t, l, cs, vs, z, o')) (encCell_at o (rd_Cell cs i) i)
  · intro again i o hi
    unfold S_spec_PutPool_16
    simp only [Bool.cond_eq_ite, decide_eq_true_eq, if_neg hi]
theorem impl_pp16 (k0 : PT → Option R) (hl : cs.length ≤ 1000) (hM : List.length o + (catI encCell cs 0).length ≤ 900000) : L_impl_PutPool_16 k0 (cs, ((List.length cs : Nat) : Int), 0, q, t, l, cs, vs, z, o) = k0 (q, t, l, cs, vs, z, o ++ catI encCell cs 0) := by
  unfold L_impl_PutPool_16
  refine cat_loop (step := S_impl_PutPool_16 k0) z_Cell encCell cs (fun i o => (cs, ((List.length cs : Nat) : Int), i, q, t, l, cs, vs, z, o)) (fun o => k0 (q, t, l, cs, vs, z, o)) 900000 (by omega) ?_ ?_ o hM
  · intro again i o h0 h1 hb hm
    have hw : Go.IntKind.wrap .i64 (i + 1) = i + 1 := w64 (by omega) (by omega)
    have he := impl_PutW_eq o (rd_Cell cs i).1 (by omega)
    have hlen : List.length (o ++ two (rd_Cell cs i).1) = List.length o + 2 := by rw [List.length_append]; rfl
    have hlen2 : List.length ((o ++ two (rd_Cell cs i).1) ++ [bit (rd_Cell cs i).2.1]) = List.length o + 3 := by rw [List.length_append, hlen]; rfl
    have he2 := impl_PutW_eq ((o ++ two (rd_Cell cs i).1) ++ [bit (rd_Cell cs i).2.1]) (rd_Cell cs i).2.2 (by omega)
    unfold S_impl_PutPool_16
    simp only [Bool.cond_eq_ite, decide_eq_true_eq, h0, h1, if_true, hw, he, impl_bit_eq, Option.bind_some]
    rw [if_pos (by simp only [List.length_cons, List.length_nil]; omega), he2]
    exact congrArg (fun o' => again (cs, ((List.length cs : Nat) : Int), i + 1, q, t, l, cs, vs, z, o')) (encCell_at o (rd_Cell cs i) i)
  · intro again i o hi
    unfold S_impl_PutPool_16
    simp only [Bool.cond_eq_ite, decide_eq_true_eq, if_neg hi]
theorem spec_pp25 (k0 : Int × PT → Option R) (i : Int) (i0 : 0 ≤ i) (i1 : i < ((List.length t : Nat) : Int)) (hl : List.length (rd_Node t i) ≤ 1000) (hs : ∀ s ∈ (show List E_s_Key from rd_Node t i), List.length s ≤ 60 ∧ ∀ k ∈ (show List E_Key from s), keyOkK k = true) (hM : List.length o + (catI encSet (rd_Node t i) 0).length ≤ 900000) :
    L_spec_PutPool_25 k0 (i, 0, q, t, l, cs, vs, z, o) = k0 (i, q, t, l, cs, vs, z, o ++ catI encSet (rd_Node t i) 0) := by
  unfold L_spec_PutPool_25
  refine cat_loop (step := S_spec_PutPool_25 k0) z_s_Key encSet (rd_Node t i) (fun j o => (i, j, q, t, l, cs, vs, z, o)) (fun o => k0 (i, q, t, l, cs, vs, z, o)) 900000 (by omega) ?_ ?_ o hM
  · intro again j o h0 h1 hb hm
    have hw : Go.IntKind.wrap .i64 (j + 1) = j + 1 := w64 (by omega) (by omega)
    have he := spec_Set_eq o (rd_s_Key (rd_Node t i) j) (hs _ hm).1 (hs _ hm).2 (by omega)
    unfold S_spec_PutPool_25
    simp only [Bool.cond_eq_ite, decide_eq_true_eq, i0, i1, h0, h1, if_true, hw, he, Option.bind_some]
    rfl
  · intro again j o hj
    unfold S_spec_PutPool_25
    simp only [Bool.cond_eq_ite, decide_eq_true_eq, i0, i1, if_true, if_neg hj]
theorem impl_pp30 (k0 : List E_Node × Int × Int × List E_s_Key × Int × Int × PT → Option R) (m i m2 j : Int) (nd : List E_s_Key) (t' : List E_Node) (s : List E_Key) (hs : s.length ≤ 60) (hk : ∀ k ∈ s, keyOkK k = true) (hM : List.length o + (catI encKey s 0).length ≤ 1000000) :
    L_impl_PutPool_30 k0 (t', m, i, nd, m2, j, s, ((List.length s : Nat) : Int), 0, q, t, l, cs, vs, z, o) = k0 (t', m, i, nd, m2, j, q, t, l, cs, vs, z, o ++ catI encKey s 0) := by
  unfold L_impl_PutPool_30
  refine cat_loop (step := S_impl_PutPool_30 k0) z_Key encKey s (fun x o => (t', m, i, nd, m2, j, s, ((List.length s : Nat) : Int), x, q, t, l, cs, vs, z, o)) (fun o => k0 (t', m, i, nd, m2, j, q, t, l, cs, vs, z, o)) 1000000 (by omega) ?_ ?_ o hM
  · intro again x o h0 h1 hb hm
    have hw : Go.IntKind.wrap .i64 (x + 1) = x + 1 := w64 (by omega) (by omega)
    have he := impl_PutKey_eq o (rd_Key s x) (hk _ hm) (by omega)
    unfold S_impl_PutPool_30
    simp only [Bool.cond_eq_ite, decide_eq_true_eq, h0, h1, if_true, hw, he, Option.bind_some]
    rfl
  · intro again x o hx
    unfold S_impl_PutPool_30
    simp only [Bool.cond_eq_ite, decide_eq_true_eq, if_neg hx]
theorem impl_pp26 (k0 : List E_Node × Int × Int × PT → Option R) (m i : Int) (nd : List E_s_Key) (t' : List E_Node) (hl : nd.length ≤ 1000) (hs : ∀ s ∈ nd, List.length s ≤ 60 ∧ ∀ k ∈ (show List E_Key from s), keyOkK k = true) (hM : List.length o + (catI encSet nd 0).length ≤ 900000) :
    L_impl_PutPool_26 k0 (t', m, i, nd, ((List.length nd : Nat) : Int), 0, q, t, l, cs, vs, z, o) = k0 (t', m, i, q, t, l, cs, vs, z, o ++ catI encSet nd 0) := by
  unfold L_impl_PutPool_26
  refine cat_loop (step := S_impl_PutPool_26 k0) z_s_Key encSet nd (fun j o => (t', m, i, nd, ((List.length nd : Nat) : Int), j, q, t, l, cs, vs, z, o)) (fun o => k0 (t', m, i, q, t, l, cs, vs, z, o)) 900000 (by omega) ?_ ?_ o hM
  · intro again j o h0 h1 hb hm
    have hw : Go.IntKind.wrap .i64 (j + 1) = j + 1 := w64 (by omega) (by omega)
    have hsj := hs _ hm
    have hlen := catI_len encKey 6 (rd_s_Key nd j) 0 fun a _ j => Nat.le_refl _
    have h60 : List.length (rd_s_Key nd j) ≤ 60 := hsj.1
    unfold S_impl_PutPool_26
    simp only [Bool.cond_eq_ite, decide_eq_true_eq, h0, h1, if_true, hw]
    rw [if_pos (by simp only [List.length_cons, List.length_nil]; omega), impl_pp30 q t l cs vs z _ _ m i _ j nd t' (rd_s_Key nd j) h60 hsj.2 (by rw [List.length_append]; simp only [List.length_cons, List.length_nil]; omega)]
    simp only [hw, List.append_assoc]
    rfl
  · intro again j o hj
    unfold S_impl_PutPool_26
    simp only [Bool.cond_eq_ite, decide_eq_true_eq, if_neg hj]
theorem encNode_at (o : List Int) (i : Int) (n : E_Node) : ((o ++ two (q.getD i.toNat 0)) ++ [b8 ((List.length n : Nat) : Int)]) ++ catI encSet n 0 = o ++ encNode q i n := by
  unfold encNode
  simp only [List.append_assoc]
theorem spec_pp21 (k0 : List E_u8 → Option R) (hl : t.length ≤ 1000) (hq : q.length = t.length) (hn : ∀ n ∈ t, List.length n ≤ 3) (hs : ∀ n ∈ t, ∀ s ∈ (show List E_s_Key from n), List.length s ≤ 60 ∧ ∀ k ∈ (show List E_Key from s), keyOkK k = true) (hM : List.length o + (catI (encNode q) t 0).length ≤ 800000) :
    L_spec_PutPool_21 k0 (0, q, t, l, cs, vs, z, o) = k0 (o ++ catI (encNode q) t 0) := by
  unfold L_spec_PutPool_21
  refine cat_loop (step := S_spec_PutPool_21 k0) z_Node (encNode q) t (fun i o => (i, q, t, l, cs, vs, z, o)) k0 800000 (by omega) ?_ ?_ o hM
  · intro again i o h0 h1 hb hm
    have hw : Go.IntKind.wrap .i64 (i + 1) = i + 1 := w64 (by omega) (by omega)
    have he := spec_PutW_eq o (rd_i64 q i) (by omega)
    have hlen : List.length (o ++ two (rd_i64 q i)) = List.length o + 2 := by rw [List.length_append]; rfl
    have hq1 : i < ((List.length q : Nat) : Int) := by omega
    have h3 : List.length (rd_Node t i) ≤ 3 := hn _ hm
    have hsets := sets_len (rd_Node t i) h3 fun s hs' => (hs _ hm s hs').1
    unfold S_spec_PutPool_21
    simp only [Bool.cond_eq_ite, decide_eq_true_eq, h0, h1, hq1, if_true, hw, he, Option.bind_some]
    rw [if_pos (by simp only [List.length_cons, List.length_nil]; omega), spec_pp25 q t l cs vs z _ _ i h0 h1 (by omega) (hs _ hm) (by rw [List.length_append, hlen]; simp only [List.length_cons, List.length_nil]; omega)]
    simp only [hw]
    exact congrArg (fun o' => again (i + 1, q, t, l, cs, vs, z, o')) (encNode_at q o i (rd_Node t i))
  · intro again i o hi
    unfold S_spec_PutPool_21
    simp only [Bool.cond_eq_ite, decide_eq_true_eq, if_neg hi]
theorem impl_pp22 (k0 : List E_u8 → Option R) (hl : t.length ≤ 1000) (hq : q.length = t.length) (hn : ∀ n ∈ t, List.length n ≤ 3) (hs : ∀ n ∈ t, ∀ s ∈ (show List E_s_Key from n), List.length s ≤ 60 ∧ ∀ k ∈ (show List E_Key from s), keyOkK k = true) (hM : List.length o + (catI (encNode q) t 0).length ≤ 800000) :
    L_impl_PutPool_22 k0 (t, ((List.length t : Nat) : Int), 0, q, t, l, cs, vs, z, o) = k0 (o ++ catI (encNode q) t 0) := by
  unfold L_impl_PutPool_22
  refine cat_loop (step := S_impl_PutPool_22 k0) z_Node (encNode q) t (fun i o => (t, ((List.length t : Nat) : Int), i, q, t, l, cs, vs, z, o)) k0 800000 (by omega) ?_ ?_ o hM
  · intro again i o h0 h1 hb hm
    have hw : Go.IntKind.wrap .i64 (i + 1) = i + 1 := w64 (by omega) (by omega)
    have he := impl_PutW_eq o (rd_i64 q i) (by omega)
    have hlen : List.length (o ++ two (rd_i64 q i)) = List.length o + 2 := by rw [List.length_append]; rfl
    have hq1 : i < ((List.length q : Nat) : Int) := by omega
    have h3 : List.length (rd_Node t i) ≤ 3 := hn _ hm
    have hsets := sets_len (rd_Node t i) h3 fun s hs' => (hs _ hm s hs').1
    unfold S_impl_PutPool_22
    simp only [Bool.cond_eq_ite, decide_eq_true_eq, h0, h1, hq1, if_true, hw, he, Option.bind_some]
    rw [if_pos (by simp only [List.length_cons, List.length_nil]; omega), impl_pp26 q t l cs vs z _ _ _ i (rd_Node t i) t (by omega) (hs _ hm) (by rw [List.length_append, hlen]; simp only [List.length_cons, List.length_nil]; omega)]
    simp only [hw]
    exact congrArg (fun o' => again (t, ((List.length t : Nat) : Int), i + 1, q, t, l, cs, vs, z, o')) (encNode_at q o i (rd_Node t i))
  · intro again i o hi
    unfold S_impl_PutPool_22
    simp only [Bool.cond_eq_ite, decide_eq_true_eq, if_neg hi]
end
noncomputable def putPoolK (q : List Int) (t : List E_Node) (l : List E_Age) (cs : List E_Cell) (vs : List E_Vol) (z : Int) : List Int := if poolOkK q t l cs vs z = true then encPool q t l cs vs z else []
theorem encPool_len {q : List Int} {t : List E_Node} {l : List E_Age} {cs : List E_Cell} {vs : List E_Vol} (z : Int) (h : PoolF q t l cs vs) : (encPool q t l cs vs z).length ≤ 22000 := by
  have h1 := ages_len h
  have h2 := vols_len h
  have h3 := cells_len h
  have h4 := nodes_len h
  unfold encPool
  simp only [List.length_append, List.length_cons, List.length_nil, two]
  omega
theorem putPoolK_len (q : List Int) (t : List E_Node) (l : List E_Age) (cs : List E_Cell) (vs : List E_Vol) (z : Int) : (putPoolK q t l cs vs z).length ≤ 22000 := by
  unfold putPoolK
  split
  · rename_i h
    exact encPool_len z (poolF h)
  · simp
theorem spec_PutPool_eq (q : List Int) (t : List E_Node) (l : List E_Age) (cs : List E_Cell) (vs : List E_Vol) (z : Int) (ht : TOk t) (hl : l.length ≤ 1048576) (hc : cs.length ≤ 1048576) (hv : vs.length ≤ 1048576) (hvn : ∀ v ∈ vs, ByteArray.size v.1 ≤ maxLen) : F_spec_PutPool (q, t, l, cs, vs, z) = some (putPoolK q t l cs vs z) := by
  unfold F_spec_PutPool putPoolK
  simp only [spec_PoolOk_eq q t l cs vs z ht hl hc hv hvn, Option.bind_some]
  cases hp : poolOkK q t l cs vs z with
  | false => rfl
  | true =>
    have h := poolF hp
    have h1 := ages_len h
    have h2 := vols_len h
    have h3 := cells_len h
    have h4 := nodes_len h
    simp only [Bool.not_true, cond_false, if_true, spec_PutW_eq [] z (by decide), Option.bind_some, List.nil_append]
    rw [if_pos (by simp only [two, List.length_cons, List.length_nil]; omega), spec_pp6 q t l cs vs z _ _ (by have := h.ll; omega) (by simp only [two, List.length_append, List.length_cons, List.length_nil]; omega)]
    simp only []
    rw [if_pos (by simp only [two, List.length_append, List.length_cons, List.length_nil]; omega), spec_pp11 q t l cs vs z _ _ (by have := h.vl; omega) h.nm (by simp only [two, List.length_append, List.length_cons, List.length_nil]; omega)]
    simp only []
    rw [spec_pp16 q t l cs vs z _ _ (by have := h.cl; omega) (by simp only [two, List.length_append, List.length_cons, List.length_nil]; omega)]
    simp only []
    rw [if_pos (by simp only [two, List.length_append, List.length_cons, List.length_nil]; omega), spec_pp21 q t l cs vs z _ _ (by have := h.tl; omega) h.ql h.nl h.sl (by simp only [two, List.length_append, List.length_cons, List.length_nil]; omega)]
    rfl
theorem impl_PutPool_eq (q : List Int) (t : List E_Node) (l : List E_Age) (cs : List E_Cell) (vs : List E_Vol) (z : Int) (ht : TOk t) (hl : l.length ≤ 1048576) (hc : cs.length ≤ 1048576) (hv : vs.length ≤ 1048576) (hvn : ∀ v ∈ vs, ByteArray.size v.1 ≤ maxLen) : F_impl_PutPool (q, t, l, cs, vs, z) = some (putPoolK q t l cs vs z) := by
  unfold F_impl_PutPool putPoolK
  simp only [impl_PoolOk_eq q t l cs vs z ht hl hc hv hvn, Option.bind_some]
  cases hp : poolOkK q t l cs vs z with
  | false => rfl
  | true =>
    have h := poolF hp
    have h1 := ages_len h
    have h2 := vols_len h
    have h3 := cells_len h
    have h4 := nodes_len h
    simp only [Bool.not_true, cond_false, if_true, impl_PutW_eq [] z (by decide), Option.bind_some, List.nil_append]
    rw [if_pos (by simp only [two, List.length_cons, List.length_nil]; omega), impl_pp5 q t l cs vs z _ _ (by have := h.ll; omega) (by simp only [two, List.length_append, List.length_cons, List.length_nil]; omega)]
    simp only []
    rw [if_pos (by simp only [two, List.length_append, List.length_cons, List.length_nil]; omega), impl_pp11 q t l cs vs z _ _ (by have := h.vl; omega) h.nm (by simp only [two, List.length_append, List.length_cons, List.length_nil]; omega)]
    simp only []
    rw [impl_pp16 q t l cs vs z _ _ (by have := h.cl; omega) (by simp only [two, List.length_append, List.length_cons, List.length_nil]; omega)]
    simp only []
    rw [if_pos (by simp only [two, List.length_append, List.length_cons, List.length_nil]; omega), impl_pp22 q t l cs vs z _ _ (by have := h.tl; omega) h.ql h.nl h.sl (by simp only [two, List.length_append, List.length_cons, List.length_nil]; omega)]
    rfl
end Go.Proofs.YtmapoakbdgpamaaGreat.Pl

/- A pool is marked; the law of PutPool. No condition. -/
namespace Go.Proofs.YtmapoakbdgpamaaGreat.Pl
open Go.Proofs.YtmapoakbdgpamaaGreat.R Go.Proofs.YtmapoakbdgpamaaGreat.XJ
set_option linter.unusedVariables false
set_option linter.unusedSimpArgs false

theorem sumW_const {A : Type} (m : Int) : ∀ (l : List A), sumW (fun _ => m) l = m * l.length
  | [] => by simp [sumW]
  | a :: l => by
    rw [sumW_cons, sumW_const m l, List.length_cons]
    rw [show ((l.length + 1 : Nat) : Int) = (l.length : Int) + 1 from by omega, Int.mul_add]
    omega
theorem sumW_mul {A : Type} (w v : A → Int) (m : Int) (h : ∀ a, w a = m * v a) : ∀ (l : List A), sumW w l = m * sumW v l
  | [] => by simp [sumW]
  | a :: l => by
    rw [sumW_cons, sumW_cons, sumW_mul w v m h l, h a, Int.mul_add]
theorem markIntS_ok (l : List E_i64) (k : Int) (h0 : 0 ≤ k) (hl : l.length ≤ 1048576) (hk : k + l.length ≤ bigN) : ∃ o, F_laws_markIntS (l, k) = some (k + l.length, o) := by
  unfold F_laws_markIntS L_laws_markIntS_2
  have hs : sumW (fun _ : E_i64 => (1 : Int)) l = l.length := by
    rw [sumW_const]
    omega
  have := mark_loop (step := S_laws_markIntS_2 (fun x1 => some (x1.1, x1.2))) z_i64 (fun _ k => k) (fun _ => 1) (fun _ => by omega) (fun _ => True) (fun x2 => some (x2.1, x2.2)) bigN ?_ ?_ l k h0 (by omega) (by rw [hs]; exact hk) (fun _ _ => trivial)
  · rw [hs] at this
    exact ⟨_, this⟩
  · intro again k i l h0 h1 hk hM hl _
    unfold bigN at hM
    have wi := add1 i (by omega) (by omega)
    have w1 := add1 k (by omega) (by omega)
    unfold S_laws_markIntS_2
    simp only [Bool.cond_eq_ite, decide_eq_true_eq, h0, h1, if_true, wi, w1]
  · intro again k i l hi
    unfold S_laws_markIntS_2
    simp only [Bool.cond_eq_ite, decide_eq_true_eq, if_neg hi]
theorem markKeyS_ok (l : List E_Key) (k : Int) (h0 : 0 ≤ k) (hl : l.length ≤ 1048576) (hk : k + 5 * l.length ≤ bigN) : ∃ o, F_laws_markKeyS (l, k) = some (k + 5 * l.length, o) := by
  unfold F_laws_markKeyS L_laws_markKeyS_2
  have hs : sumW (fun _ : E_Key => (5 : Int)) l = 5 * l.length := sumW_const 5 l
  have := mark_loop (step := S_laws_markKeyS_2 (fun x3 => some (x3.1, x3.2))) z_Key (fun _ k => (k, k + 1, k + 2, k + 3, k + 4)) (fun _ => 5) (fun _ => by omega) (fun _ => True) (fun x2 => some (x2.1, x2.2)) bigN ?_ ?_ l k h0 (by omega) (by rw [hs]; exact hk) (fun _ _ => trivial)
  · rw [hs] at this
    exact ⟨_, this⟩
  · intro again k i l h0 h1 hk hM hl _
    unfold bigN at hM
    have hr : ∀ v : E_Key, rd_Key (l.set i.toNat v) i = v := fun v => set_rd z_Key l i v h0 h1
    have wi := add1 i (by omega) (by omega)
    have w1 := add1 k (by omega) (by omega)
    have w2 : Go.IntKind.wrap .i64 (k + 1 + 1) = k + 2 := (add1 (k + 1) (by omega) (by omega)).trans (by omega)
    have w3 : Go.IntKind.wrap .i64 (k + 2 + 1) = k + 3 := (add1 (k + 2) (by omega) (by omega)).trans (by omega)
    have w4 : Go.IntKind.wrap .i64 (k + 3 + 1) = k + 4 := (add1 (k + 3) (by omega) (by omega)).trans (by omega)
    have w5 : Go.IntKind.wrap .i64 (k + 4 + 1) = k + 5 := (add1 (k + 4) (by omega) (by omega)).trans (by omega)
    unfold S_laws_markKeyS_2
    simp only [Bool.cond_eq_ite, decide_eq_true_eq, h0, h1, if_true, wi, w1, w2, w3, w4, w5, hr, List.length_set, List.set_set]
  · intro again k i l hi
    unfold S_laws_markKeyS_2
    simp only [Bool.cond_eq_ite, decide_eq_true_eq, if_neg hi]
theorem markAgeS_ok (l : List E_Age) (k : Int) (h0 : 0 ≤ k) (hl : l.length ≤ 1048576) (hk : k + 2 * l.length ≤ bigN) : ∃ o, F_laws_markAgeS (l, k) = some (k + 2 * l.length, o) := by
  unfold F_laws_markAgeS L_laws_markAgeS_2
  have hs : sumW (fun _ : E_Age => (2 : Int)) l = 2 * l.length := sumW_const 2 l
  have := mark_loop (step := S_laws_markAgeS_2 (fun x1 => some (x1.1, x1.2))) z_Age (fun _ k => (k, k + 1)) (fun _ => 2) (fun _ => by omega) (fun _ => True) (fun x2 => some (x2.1, x2.2)) bigN ?_ ?_ l k h0 (by omega) (by rw [hs]; exact hk) (fun _ _ => trivial)
  · rw [hs] at this
    exact ⟨_, this⟩
  · intro again k i l h0 h1 hk hM hl _
    unfold bigN at hM
    have hr : ∀ v : E_Age, rd_Age (l.set i.toNat v) i = v := fun v => set_rd z_Age l i v h0 h1
    have wi := add1 i (by omega) (by omega)
    have w1 := add1 k (by omega) (by omega)
    have w2 : Go.IntKind.wrap .i64 (k + 1 + 1) = k + 2 := (add1 (k + 1) (by omega) (by omega)).trans (by omega)
    unfold S_laws_markAgeS_2
    simp only [Bool.cond_eq_ite, decide_eq_true_eq, h0, h1, if_true, wi, w1, w2, hr, List.length_set, List.set_set]
  · intro again k i l hi
    unfold S_laws_markAgeS_2
    simp only [Bool.cond_eq_ite, decide_eq_true_eq, if_neg hi]
theorem markCellS_ok (l : List E_Cell) (k : Int) (h0 : 0 ≤ k) (hl : l.length ≤ 1048576) (hk : k + 3 * l.length ≤ bigN) : ∃ o, F_laws_markCellS (l, k) = some (k + 3 * l.length, o) := by
  unfold F_laws_markCellS L_laws_markCellS_2
  have hs : sumW (fun _ : E_Cell => (3 : Int)) l = 3 * l.length := sumW_const 3 l
  have := mark_loop (step := S_laws_markCellS_2 (fun x2 => some (x2.1, x2.2))) z_Cell (fun _ k => (k, Int.tmod (k + 1) 3 == 0, k + 2)) (fun _ => 3) (fun _ => by omega) (fun _ => True) (fun x2 => some (x2.1, x2.2)) bigN ?_ ?_ l k h0 (by omega) (by rw [hs]; exact hk) (fun _ _ => trivial)
  · rw [hs] at this
    exact ⟨_, this⟩
  · intro again k i l h0 h1 hk hM hl _
    unfold bigN at hM
    have hr : ∀ v : E_Cell, rd_Cell (l.set i.toNat v) i = v := fun v => set_rd z_Cell l i v h0 h1
    have wi := add1 i (by omega) (by omega)
    have w1 := add1 k (by omega) (by omega)
    have w2 : Go.IntKind.wrap .i64 (k + 1 + 1) = k + 2 := (add1 (k + 1) (by omega) (by omega)).trans (by omega)
    have w3 : Go.IntKind.wrap .i64 (k + 2 + 1) = k + 3 := (add1 (k + 2) (by omega) (by omega)).trans (by omega)
    unfold S_laws_markCellS_2
    simp only [Bool.cond_eq_ite, decide_eq_true_eq, h0, h1, if_true, wi, w1, w2, w3, hr, List.length_set, List.set_set]
  · intro again k i l hi
    unfold S_laws_markCellS_2
    simp only [Bool.cond_eq_ite, decide_eq_true_eq, if_neg hi]
theorem markVolS_ok (l : List E_Vol) (k : Int) (h0 : 0 ≤ k) (hl : l.length ≤ 1048576) (hk : k + 4 * l.length ≤ bigN) : ∃ o, F_laws_markVolS (l, k) = some (k + 4 * l.length, o) := by
  unfold F_laws_markVolS L_laws_markVolS_2
  have hs : sumW (fun _ : E_Vol => (4 : Int)) l = 4 * l.length := sumW_const 4 l
  have := mark_loop (step := S_laws_markVolS_2 (fun x3 => some (x3.1, x3.2))) z_Vol (fun _ k => (mt k, k + 1, k + 2, Int.tmod (k + 3) 3 == 0)) (fun _ => 4) (fun _ => by omega) (fun _ => True) (fun x2 => some (x2.1, x2.2)) bigN ?_ ?_ l k h0 (by omega) (by rw [hs]; exact hk) (fun _ _ => trivial)
  · rw [hs] at this
    exact ⟨_, this⟩
  · intro again k i l h0 h1 hk hM hl _
    unfold bigN at hM
    have hr : ∀ v : E_Vol, rd_Vol (l.set i.toNat v) i = v := fun v => set_rd z_Vol l i v h0 h1
    have wi := add1 i (by omega) (by omega)
    have w1 := add1 k (by omega) (by omega)
    have w2 : Go.IntKind.wrap .i64 (k + 1 + 1) = k + 2 := (add1 (k + 1) (by omega) (by omega)).trans (by omega)
    have w3 : Go.IntKind.wrap .i64 (k + 2 + 1) = k + 3 := (add1 (k + 2) (by omega) (by omega)).trans (by omega)
    have w4 : Go.IntKind.wrap .i64 (k + 3 + 1) = k + 4 := (add1 (k + 3) (by omega) (by omega)).trans (by omega)
    have ht := markText_eq k (by omega) (by omega)
    unfold S_laws_markVolS_2
    simp only [Bool.cond_eq_ite, decide_eq_true_eq, h0, h1, if_true, wi, w1, w2, w3, w4, ht, Option.bind_some, hr, List.length_set, List.set_set]
  · intro again k i l hi
    unfold S_laws_markVolS_2
    simp only [Bool.cond_eq_ite, decide_eq_true_eq, if_neg hi]
/-! ### Rows inside rows -/
theorem get_of {A B : Type} {f : Option (A × B)} {a : A} (h : ∃ o, f = some (a, o)) (d : B) : f = some (a, (f.map Prod.snd).getD d) := by
  obtain ⟨o, rfl⟩ := h
  rfl
def cntS (a : E_s_Key) : Int := 5 * (List.length a : Int)
theorem cntS_nonneg (a : E_s_Key) : 0 ≤ cntS a := by
  unfold cntS
  omega
theorem markKeySS_ok (l : List E_s_Key) (k : Int) (h0 : 0 ≤ k) (hl : l.length ≤ 1048576) (hk : k + sumW cntS l ≤ bigN) (hm : ∀ a ∈ l, List.length a ≤ 1048576) : ∃ o, F_laws_markKeySS (l, k) = some (k + sumW cntS l, o) := by
  unfold F_laws_markKeySS L_laws_markKeySS_2
  refine ⟨_, mark_loop z_s_Key (fun a k => ((F_laws_markKeyS (a, k)).map Prod.snd).getD []) cntS cntS_nonneg (fun a => List.length a ≤ 1048576) (fun x2 => some (x2.1, x2.2)) bigN ?_ ?_ l k h0 (by omega) hk hm⟩
  · intro again k i l h0 h1 hk hM hl hP
    unfold bigN at hM
    have hb : cntS (l.getD i.toNat z_s_Key) = 5 * (List.length (l.getD i.toNat z_s_Key) : Int) := rfl
    have wi := add1 i (by omega) (by omega)
    have he : F_laws_markKeyS (rd_s_Key l i, k) = some (k + cntS (l.getD i.toNat z_s_Key), ((F_laws_markKeyS (l.getD i.toNat z_s_Key, k)).map Prod.snd).getD []) := get_of (markKeyS_ok (l.getD i.toNat z_s_Key) k hk hP (by unfold bigN; omega)) []
    unfold S_laws_markKeySS_2
    simp only [Bool.cond_eq_ite, decide_eq_true_eq, h0, h1, if_true, wi, he, Option.bind_some]
  · intro again k i l hi
    unfold S_laws_markKeySS_2
    simp only [Bool.cond_eq_ite, decide_eq_true_eq, if_neg hi]
def cntN (a : E_Node) : Int := sumW cntS a
theorem cntN_nonneg (a : E_Node) : 0 ≤ cntN a := sumW_nonneg cntS_nonneg a
theorem markNodeS_ok (l : List E_Node) (k : Int) (h0 : 0 ≤ k) (hl : l.length ≤ 1048576) (hk : k + sumW cntN l ≤ bigN) (hm : ∀ a ∈ l, List.length a ≤ 1048576 ∧ ∀ b ∈ (show List E_s_Key from a), List.length b ≤ 1048576) : ∃ o, F_laws_markNodeS (l, k) = some (k + sumW cntN l, o) := by
  unfold F_laws_markNodeS L_laws_markNodeS_2
  refine ⟨_, mark_loop z_Node (fun a k => ((F_laws_markKeySS (a, k)).map Prod.snd).getD []) cntN cntN_nonneg (fun a => List.length a ≤ 1048576 ∧ ∀ b ∈ (show List E_s_Key from a), List.length b ≤ 1048576) (fun x2 => some (x2.1, x2.2)) bigN ?_ ?_ l k h0 (by omega) hk hm⟩
  · intro again k i l h0 h1 hk hM hl hP
    unfold bigN at hM
    have hb : cntN (l.getD i.toNat z_Node) = sumW cntS (l.getD i.toNat z_Node) := rfl
    have wi := add1 i (by omega) (by omega)
    have he : F_laws_markKeySS (rd_Node l i, k) = some (k + cntN (l.getD i.toNat z_Node), ((F_laws_markKeySS (l.getD i.toNat z_Node, k)).map Prod.snd).getD []) := get_of (markKeySS_ok (l.getD i.toNat z_Node) k hk hP.1 (by unfold bigN; omega) hP.2) []
    unfold S_laws_markNodeS_2
    simp only [Bool.cond_eq_ite, decide_eq_true_eq, h0, h1, if_true, wi, he, Option.bind_some]
  · intro again k i l hi
    unfold S_laws_markNodeS_2
    simp only [Bool.cond_eq_ite, decide_eq_true_eq, if_neg hi]
theorem cntN_le (n : E_Node) : cntN n ≤ 5 * wSets n := by
  have h1 : cntN n = 5 * sumW (fun a : E_s_Key => (List.length a : Int)) n := sumW_mul cntS (fun a : E_s_Key => (List.length a : Int)) 5 (fun _ => rfl) n
  have h2 : wSets n = (List.length n : Int) + sumW (fun a : E_s_Key => (List.length a : Int)) n := rfl
  omega
theorem sum_le {A : Type} (w v : A → Int) (m : Int) (h : ∀ a, w a ≤ m * v a) : ∀ (l : List A), sumW w l ≤ m * sumW v l
  | [] => by simp [sumW]
  | a :: l => by
    have := sum_le w v m h l
    have := h a
    rw [sumW_cons, sumW_cons, Int.mul_add]
    omega
theorem markPool_ok (q : List E_i64) (t : List E_LNode) (l : List E_LAge) (cs : List E_LCell) (vs : List E_LVol) (z : Int) (h : small q t l cs vs) : ∃ r o, F_laws_markPool (q, t, l, cs, vs, z, 1) = some (r, o) ∧ 0 ≤ r ∧ r ≤ 60000000 := by
  have hq := h.1
  have ht := h.2.1
  have hw := h.2.2.1
  have hl := h.2.2.2.1
  have hc := h.2.2.2.2.1
  have hv := h.2.2.2.2.2
  have hN := sum_le cntN wSets 5 cntN_le t
  have hN0 := sumW_nonneg cntN_nonneg t
  have hm : ∀ n ∈ t, List.length n ≤ 1048576 ∧ ∀ s ∈ (show List E_s_Key from n), List.length s ≤ 1048576 := fun n hn => node_small hw hn
  obtain ⟨o1, e1⟩ := markIntS_ok q 1 (by omega) hq (by unfold bigN; omega)
  obtain ⟨o2, e2⟩ := markNodeS_ok t (1 + q.length) (by omega) ht (by unfold bigN; omega) hm
  obtain ⟨o3, e3⟩ := markAgeS_ok l (1 + q.length + sumW cntN t) (by omega) hl (by unfold bigN; omega)
  obtain ⟨o4, e4⟩ := markCellS_ok cs (1 + q.length + sumW cntN t + 2 * l.length) (by omega) hc (by unfold bigN; omega)
  obtain ⟨o5, e5⟩ := markVolS_ok vs (1 + q.length + sumW cntN t + 2 * l.length + 3 * cs.length) (by omega) hv (by unfold bigN; omega)
  unfold F_laws_markPool F_laws_markTree
  simp only [e1, e2, e3, e4, e5, Option.bind_some]
  exact ⟨_, _, rfl, by omega, by omega⟩
theorem law_PutPool (is : List E_i64) (ns : List E_LNode) (ags : List E_LAge) (cs : List E_LCell) (vs : List E_LVol) (z : Int) (hi : is.length ≤ maxLen) (hn : ns.length ≤ maxLen) (hnn : ∀ a ∈ ns, List.length a ≤ maxLen ∧ ∀ b ∈ (show List E_s_LKey from a), List.length b ≤ maxLen)
    (ha : ags.length ≤ maxLen) (hc : cs.length ≤ maxLen) (hv : vs.length ≤ maxLen) (hvv : ∀ a ∈ vs, ByteArray.size a.1 ≤ maxLen) : F_laws_FnExactPutPool (is, ns, ags, cs, vs, z) = some true := by
  obtain ⟨r, hr, hcase⟩ := szPool_ok is ns ags cs vs z hi hn hnn ha hc hv hvv
  unfold F_laws_FnExactPutPool
  simp only [hr, Option.bind_some]
  rw [Bool.cond_eq_ite]
  by_cases h : r < 0
  · rw [if_pos (by simpa using h)]
  · rw [if_neg (by simpa using h)]
    have hs := hcase.resolve_left h
    have hm : ∀ n ∈ ns, List.length n ≤ 1073741824 := fun n hn => by
      have := (node_small hs.2.2.1 hn).1
      omega
    have ht : TOk ns := ⟨by have := hs.2.1; omega, hm, hs.2.2.1⟩
    have hlen := putPoolK_len is ns ags cs vs z
    obtain ⟨m, o, hmk, m0, m1⟩ := markPool_ok is ns ags cs vs z hs
    simp only [toPool_eq is ns ags cs vs z hs, eqPool_refl is ns ags cs vs z hs, spec_PutPool_eq is ns ags cs vs z ht hs.2.2.2.1 hs.2.2.2.2.1 hs.2.2.2.2.2 hvv, impl_PutPool_eq is ns ags cs vs z ht hs.2.2.2.1 hs.2.2.2.2.1 hs.2.2.2.2.2 hvv, Option.bind_some,
      eqByteS_refl (putPoolK is ns ags cs vs z) (by omega), hmk, markByteS_eq (putPoolK is ns ags cs vs z) 1 (by omega) (by omega) (by omega), heldByteS_eq 1 (putPoolK is ns ags cs vs z).length (by omega) (by omega) (by omega)]
    rw [decide_eq_false (show ¬ m < 0 by omega), decide_eq_false (show ¬ (1 + ((putPoolK is ns ags cs vs z).length : Int)) < 0 by omega)]
    simp
end Go.Proofs.YtmapoakbdgpamaaGreat.Pl

