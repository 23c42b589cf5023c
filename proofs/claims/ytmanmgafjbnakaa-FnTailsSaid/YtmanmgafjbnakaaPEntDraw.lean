/- Draw, Crc1, Draw2, Put4, EntDraw. No condition. -/
import Derived.Test.YtmanmgafjbnakaaPFour
/- What is drawn: the cursor's steps never fail. No condition. -/
namespace Go.Proofs.Ytmanmgafjbnakaa.Pl
open Go.Proofs.Ytmanmgafjbnakaa.R Go.Proofs.Ytmanmgafjbnakaa.XV
set_option linter.unusedVariables false
set_option linter.unusedSimpArgs false

/-- A cursor's place. -/
def curOk (c : List Int) (p : Int) : Prop := c.length ≤ 1099511627776 ∧ 0 ≤ p ∧ p ≤ c.length
/-- A step: it gives something, the code stays, the place stays right. -/
def gives {A : Type} (o : Option (A × List Int × Int × Int)) (c : List Int) (Q : A → Prop) : Prop := ∃ v p s, o = some (v, c, p, s) ∧ curOk c p ∧ Q v
theorem Byte_ok (c : List Int) (p s : Int) (h : curOk c p) : gives (F_spec_l1Byte (c, p, s)) c (fun v => 0 ≤ v ∧ v < 256) := by
  obtain ⟨h1, h2, h3⟩ := h
  unfold F_spec_l1Byte
  simp only [Bool.cond_eq_ite, decide_eq_true_eq, and255]
  by_cases hp : p < (c.length : Int)
  · rw [if_pos hp, if_pos h2, if_pos hp]
    refine ⟨_, _, _, rfl, ⟨h1, ?_, ?_⟩, by omega⟩
    · rw [w64 (by omega) (by omega)]
      omega
    · rw [w64 (by omega) (by omega)]
      omega
  · rw [if_neg hp]
    exact ⟨_, _, _, rfl, ⟨h1, h2, h3⟩, by omega⟩
theorem Below_ok (c : List Int) (p s n : Int) (h : curOk c p) : gives (F_spec_l1Below (c, p, s, n)) c (fun v => 0 ≤ v ∧ (0 < n → v < n)) := by
  unfold F_spec_l1Below
  simp only [Bool.cond_eq_ite, decide_eq_true_eq]
  by_cases hn : n ≤ 0
  · rw [if_pos hn]
    exact ⟨_, _, _, rfl, h, Int.le_refl _, fun hh => by omega⟩
  · rw [if_neg hn]
    obtain ⟨v1, p1, s1, e1, h1, q1⟩ := Byte_ok c p s h
    obtain ⟨v2, p2, s2, e2, h2, q2⟩ := Byte_ok c p1 s1 h1
    obtain ⟨v3, p3, s3, e3, h3, q3⟩ := Byte_ok c p2 s2 h2
    rw [e1]
    simp only [Option.bind_some]
    have mod : ∀ v : Int, 0 ≤ v → 0 ≤ Int.tmod v n ∧ (0 < n → Int.tmod v n < n) := fun v hv => by
      rw [Int.tmod_eq_emod_of_nonneg hv]
      exact ⟨Int.emod_nonneg _ (by omega), fun hh => Int.emod_lt_of_pos _ hh⟩
    by_cases h6 : n ≤ 256
    · rw [if_pos h6, if_neg (by omega)]
      exact ⟨_, _, _, rfl, h1, mod _ q1.1⟩
    · rw [if_neg h6, e2]
      simp only [Option.bind_some]
      rw [e3]
      simp only [Option.bind_some]
      rw [if_neg (by omega)]
      rw [w64 (n := v1 * 65536) (by omega) (by omega), w64 (n := v2 * 256) (by omega) (by omega), w64 (n := v1 * 65536 + v2 * 256) (by omega) (by omega), w64 (n := v1 * 65536 + v2 * 256 + v3) (by omega) (by omega)]
      exact ⟨_, _, _, rfl, h3, mod _ (by omega)⟩
theorem Int_ok (c : List Int) (p s : Int) (L : List Int) (hL : 0 < L.length) (hL2 : L.length ≤ 1048576) (h : curOk c p) : gives (F_spec_l1Int (c, p, s, L)) c (fun v => v ∈ L) := by
  obtain ⟨v, p1, s1, e1, h1, q1⟩ := Below_ok c p s (L.length : Int) h
  have := q1.2 (by omega)
  unfold F_spec_l1Int
  rw [e1]
  simp only [Option.bind_some]
  rw [if_pos q1.1, if_pos this]
  exact ⟨_, _, _, rfl, h1, getD_mem z_i64 L v q1.1 this⟩
theorem Once_ok (c : List Int) (p s n : Int) (h : curOk c p) : gives (F_spec_l1Once (c, p, s, n)) c (fun _ => True) := by
  obtain ⟨v, p1, s1, e1, h1, q1⟩ := Below_ok c p s n h
  unfold F_spec_l1Once
  rw [e1]
  exact ⟨_, _, _, rfl, h1, trivial⟩
theorem New_ok (c : List Int) (hc : c.length ≤ 1099511627776) : ∃ s, F_spec_l1New c = some (c, 0, s) := by
  have key := loop_prop (step := S_spec_l1New_3 (fun x2 : List Int × Int => some (x2.1, (0 : Int), x2.2))) (fun t : List Int × Int × Int => c.length - t.2.2.toNat) (fun t => t.1 = c ∧ 0 ≤ t.2.2 ∧ t.2.2 ≤ c.length) (fun _ res => ∃ s, res = some (c, 0, s)) ?_ (c, (Go.IntKind.wrap .i64 ((941941 : Int) + ((List.length c : Nat) : Int))), (0 : Int)) ⟨rfl, Int.le_refl _, by simp⟩ (by simp; omega)
  · exact key
  · rintro again ⟨c', s, i⟩ ⟨rfl, h0, h1⟩ hag
    simp only at h0 h1
    unfold S_spec_l1New_3
    simp only [Bool.cond_eq_ite, decide_eq_true_eq]
    by_cases hi : i < (c'.length : Int)
    · rw [if_pos hi]
      simp only [Option.bind_some, decide_eq_true_eq]
      by_cases h4 : i < 4000
      · rw [if_pos h4, if_pos h0, if_pos hi]
        have hw : Go.IntKind.wrap .i64 (i + 1) = i + 1 := w64 (by omega) (by omega)
        rw [hw]
        exact hag _ ⟨rfl, by simp only; omega, by simp only; omega⟩ (by simp only; omega)
      · rw [if_neg h4]
        exact ⟨_, rfl⟩
    · rw [if_neg hi]
      exact ⟨_, rfl⟩
end Go.Proofs.Ytmanmgafjbnakaa.Pl

/- One byte changed: the checksum is another. No condition. -/
namespace Go.Proofs.Ytmanmgafjbnakaa.Pl
open Go.Proofs.Ytmanmgafjbnakaa.R Go.Proofs.Ytmanmgafjbnakaa.XV
set_option linter.unusedVariables false
set_option linter.unusedSimpArgs false

theorem xor_cast (x y : Int) (hx0 : 0 ≤ x) (hx1 : x < 4294967296) (hy0 : 0 ≤ y) (hy1 : y < 4294967296) : bits .xor .i64 x y = ((x.toNat ^^^ y.toNat : Nat) : Int) := by
  have := xor_nat x.toNat y.toNat (by omega) (by omega)
  rwa [Int.toNat_of_nonneg hx0, Int.toNat_of_nonneg hy0] at this
theorem xor_inj_l {x y b : Int} (hx0 : 0 ≤ x) (hx1 : x < 4294967296) (hy0 : 0 ≤ y) (hy1 : y < 4294967296) (hb0 : 0 ≤ b) (hb1 : b < 4294967296) (h : bits .xor .i64 x b = bits .xor .i64 y b) : x = y := by
  rw [xor_cast x b hx0 hx1 hb0 hb1, xor_cast y b hy0 hy1 hb0 hb1] at h
  have h1 : x.toNat ^^^ b.toNat = y.toNat ^^^ b.toNat := by exact_mod_cast h
  have h2 := congrArg (· ^^^ b.toNat) h1
  simp only [Nat.xor_assoc, Nat.xor_self, Nat.xor_zero] at h2
  omega
theorem xor_comm' {x y : Int} (hx0 : 0 ≤ x) (hx1 : x < 4294967296) (hy0 : 0 ≤ y) (hy1 : y < 4294967296) : bits .xor .i64 x y = bits .xor .i64 y x := by
  rw [xor_cast x y hx0 hx1 hy0 hy1, xor_cast y x hy0 hy1 hx0 hx1, Nat.xor_comm]
theorem xor_top {x : Int} (h0 : 0 ≤ x) (h1 : x < 2147483648) : 2147483648 ≤ bits .xor .i64 x 2197175160 := by
  rw [xor_cast x _ h0 (by omega) (by omega) (by omega)]
  have ht : (x.toNat ^^^ (2197175160 : Int).toNat).testBit 31 = true := by
    rw [Nat.testBit_xor, Nat.testBit_lt_two_pow (show x.toNat < 2 ^ 31 by omega)]
    decide
  have := Nat.ge_two_pow_of_testBit ht
  omega
theorem crcBit_inj {x y : Int} (hx0 : 0 ≤ x) (hx1 : x < 4294967296) (hy0 : 0 ≤ y) (hy1 : y < 4294967296) (h : crcBit x = crcBit y) : x = y := by
  unfold crcBit at h
  have tx := xor_top (x := x / 2) (by omega) (by omega)
  have ty := xor_top (x := y / 2) (by omega) (by omega)
  by_cases hx : x % 2 = 1
  · by_cases hy : y % 2 = 1
    · rw [if_pos hx, if_pos hy] at h
      have := xor_inj_l (x := x / 2) (y := y / 2) (by omega) (by omega) (by omega) (by omega) (by omega) (by omega) h
      omega
    · rw [if_pos hx, if_neg hy] at h
      omega
  · by_cases hy : y % 2 = 1
    · rw [if_neg hx, if_pos hy] at h
      omega
    · rw [if_neg hx, if_neg hy] at h
      omega
theorem crcBits_inj : ∀ (n : Nat) {x y : Int}, 0 ≤ x → x < 4294967296 → 0 ≤ y → y < 4294967296 → crcBits n x = crcBits n y → x = y
  | 0, x, y, _, _, _, _, h => h
  | n + 1, x, y, a, b, c, d, h => by
    have rx := crcBit_range x a b
    have ry := crcBit_range y c d
    exact crcBit_inj a b c d (crcBits_inj n rx.1 rx.2 ry.1 ry.2 h)
theorem crcStep_inj {x y b b' : Int} (hx0 : 0 ≤ x) (hx1 : x < 4294967296) (hy0 : 0 ≤ y) (hy1 : y < 4294967296) (hb0 : 0 ≤ b) (hb1 : b < 256) (hc0 : 0 ≤ b') (hc1 : b' < 256) (h : crcStep x b = crcStep y b') : bits .xor .i64 x b = bits .xor .i64 y b' := by
  unfold crcStep at h
  have r1 := xor_range x b hx0 hx1 hb0 (by omega)
  have r2 := xor_range y b' hy0 hy1 hc0 (by omega)
  exact crcBits_inj 8 r1.1 r1.2 r2.1 r2.2 h
theorem crcFold_range : ∀ (l : List Int) (x : Int), isBytes l → 0 ≤ x → x < 4294967296 → 0 ≤ l.foldl crcStep x ∧ l.foldl crcStep x < 4294967296
  | [], x, _, h0, h1 => ⟨h0, h1⟩
  | b :: l, x, hb, h0, h1 => by
    have hb' := hb b (by simp)
    have r := crcStep_range x b h0 h1 hb'.1 hb'.2
    exact crcFold_range l _ (fun y hy => hb y (by simp [hy])) r.1 r.2
theorem crcFold_inj : ∀ (l : List Int) {x y : Int}, isBytes l → 0 ≤ x → x < 4294967296 → 0 ≤ y → y < 4294967296 → l.foldl crcStep x = l.foldl crcStep y → x = y
  | [], x, y, _, _, _, _, _, h => h
  | b :: l, x, y, hb, a0, a1, c0, c1, h => by
    have hb' := hb b (by simp)
    have r1 := crcStep_range x b a0 a1 hb'.1 hb'.2
    have r2 := crcStep_range y b c0 c1 hb'.1 hb'.2
    have := crcFold_inj l (fun y hy => hb y (by simp [hy])) r1.1 r1.2 r2.1 r2.2 h
    exact xor_inj_l a0 a1 c0 c1 hb'.1 (by omega) (crcStep_inj a0 a1 c0 c1 hb'.1 hb'.2 hb'.1 hb'.2 this)
theorem crcFold_set : ∀ (l : List Int) (i : Nat) (v x : Int), isBytes l → i < l.length → 0 ≤ v → v < 256 → 0 ≤ x → x < 4294967296 → (l.set i v).foldl crcStep x = l.foldl crcStep x → l.getD i 0 = v
  | b :: l, 0, v, x, hb, _, v0, v1, x0, x1, h => by
    have hb' := hb b (by simp)
    have r1 := crcStep_range x b x0 x1 hb'.1 hb'.2
    have r2 := crcStep_range x v x0 x1 v0 v1
    have h1 : crcStep x v = crcStep x b := crcFold_inj l (fun y hy => hb y (by simp [hy])) r2.1 r2.2 r1.1 r1.2 h
    have h2 := crcStep_inj x0 x1 x0 x1 v0 v1 hb'.1 hb'.2 h1
    rw [xor_comm' x0 x1 v0 (by omega), xor_comm' x0 x1 hb'.1 (by omega)] at h2
    exact (xor_inj_l v0 (by omega) hb'.1 (by omega) x0 x1 h2).symm
  | b :: l, i + 1, v, x, hb, hi, v0, v1, x0, x1, h => by
    have hb' := hb b (by simp)
    have r1 := crcStep_range x b x0 x1 hb'.1 hb'.2
    exact crcFold_set l i v _ (fun y hy => hb y (by simp [hy])) (by simpa using hi) v0 v1 r1.1 r1.2 h
/-- The law of the checksum. -/
theorem crc_set (l : List Int) (i : Nat) (v : Int) (hb : isBytes l) (hi : i < l.length) (v0 : 0 ≤ v) (v1 : v < 256) (h : crc (l.set i v) = crc l) : l.getD i 0 = v := by
  unfold crc at h
  have hb2 : isBytes (l.set i v) := fun y hy => by
    rcases List.mem_or_eq_of_mem_set hy with h | rfl
    · exact hb y h
    · exact ⟨v0, v1⟩
  have r1 := crcFold_range l 4294967295 hb (by omega) (by omega)
  have r2 := crcFold_range (l.set i v) 4294967295 hb2 (by omega) (by omega)
  exact crcFold_set l i v _ hb hi v0 v1 (by omega) (by omega) (xor_inj_l r2.1 r2.2 r1.1 r1.2 (by omega) (by omega) h)
theorem crc_range (l : List Int) (hb : isBytes l) : 0 ≤ crc l ∧ crc l < 4294967296 := by
  have r1 := crcFold_range l 4294967295 hb (by omega) (by omega)
  exact xor_range _ _ r1.1 r1.2 (by omega) (by omega)
end Go.Proofs.Ytmanmgafjbnakaa.Pl

/- What is drawn: bytes bent, one byte turned. No condition. -/
namespace Go.Proofs.Ytmanmgafjbnakaa.Pl
open Go.Proofs.Ytmanmgafjbnakaa.R Go.Proofs.Ytmanmgafjbnakaa.XV
set_option linter.unusedVariables false
set_option linter.unusedSimpArgs false

theorem wrap_u8 (n : Int) : Go.IntKind.wrap .u8 n = n % 256 := by
  simp [Go.IntKind.wrap, Go.IntKind.bits, Go.IntKind.signed]
theorem wrap_u8_range (n : Int) : 0 ≤ Go.IntKind.wrap .u8 n ∧ Go.IntKind.wrap .u8 n < 256 := by
  rw [wrap_u8]
  omega
theorem xor_u8 (x y : Int) (hx0 : 0 ≤ x) (hx1 : x < 256) (hy0 : 0 ≤ y) (hy1 : y < 256) : bits .xor .u8 x y = ((x.toNat ^^^ y.toNat : Nat) : Int) := by
  obtain ⟨a, rfl⟩ := Int.eq_ofNat_of_zero_le hx0
  obtain ⟨b, rfl⟩ := Int.eq_ofNat_of_zero_le hy0
  show IntKind.u8.wrap ((BitVec.ofInt 8 (a : Int) ^^^ BitVec.ofInt 8 (b : Int)).toNat : Int) = _
  rw [BitVec.toNat_xor, BitVec.ofInt_natCast, BitVec.ofInt_natCast, BitVec.toNat_ofNat, BitVec.toNat_ofNat, Nat.mod_eq_of_lt (by omega), Nat.mod_eq_of_lt (by omega), wrap_u8]
  have := Nat.xor_lt_two_pow (n := 8) (x := a) (y := b) (by omega) (by omega)
  simp only [Int.toNat_natCast]
  omega
theorem xor_u8_ne (x y : Int) (hx0 : 0 ≤ x) (hx1 : x < 256) (hy0 : 0 < y) (hy1 : y < 256) : 0 ≤ bits .xor .u8 x y ∧ bits .xor .u8 x y < 256 ∧ bits .xor .u8 x y ≠ x := by
  rw [xor_u8 x y hx0 hx1 (by omega) hy1]
  have := Nat.xor_lt_two_pow (n := 8) (x := x.toNat) (y := y.toNat) (by omega) (by omega)
  refine ⟨by omega, by omega, fun h => ?_⟩
  have h1 : x.toNat ^^^ y.toNat = x.toNat := by omega
  have h2 := congrArg (x.toNat ^^^ ·) h1
  simp only [← Nat.xor_assoc, Nat.xor_self, Nat.zero_xor] at h2
  omega
theorem xor_u8_range (x y : Int) (hx0 : 0 ≤ x) (hx1 : x < 256) (hy0 : 0 ≤ y) (hy1 : y < 256) : 0 ≤ bits .xor .u8 x y ∧ bits .xor .u8 x y < 256 := by
  rw [xor_u8 x y hx0 hx1 hy0 hy1]
  have := Nat.xor_lt_two_pow (n := 8) (x := x.toNat) (y := y.toNat) (by omega) (by omega)
  omega
theorem isBytes_set {l : List Int} (h : isBytes l) (i : Nat) {v : Int} (v0 : 0 ≤ v) (v1 : v < 256) : isBytes (l.set i v) := fun y hy => by
  rcases List.mem_or_eq_of_mem_set hy with h' | rfl
  · exact h y h'
  · exact ⟨v0, v1⟩
theorem cur0 (x : List Int) (hx : x.length ≤ 1099511627776) : curOk x 0 := ⟨hx, Int.le_refl _, by omega⟩
end Go.Proofs.Ytmanmgafjbnakaa.Pl

/- Words and fours as bytes. No condition. -/
namespace Go.Proofs.Ytmanmgafjbnakaa.Pl
open Go.Proofs.Ytmanmgafjbnakaa.R Go.Proofs.Ytmanmgafjbnakaa.XV
set_option linter.unusedVariables false
set_option linter.unusedSimpArgs false

theorem fdiv8 (x : Int) : Int.fdiv x (2 ^ (min (Int.toNat (8 : Int)) (Go.IntKind.bits .i64))) = x / 256 := by
  rw [sh8, Int.fdiv_eq_ediv_of_nonneg _ (by omega)]
theorem fdiv16 (x : Int) : Int.fdiv x (2 ^ (min (Int.toNat (16 : Int)) (Go.IntKind.bits .i64))) = x / 65536 := by
  rw [sh16, Int.fdiv_eq_ediv_of_nonneg _ (by omega)]
theorem fdiv24 (x : Int) : Int.fdiv x (2 ^ (min (Int.toNat (24 : Int)) (Go.IntKind.bits .i64))) = x / 16777216 := by
  rw [sh24, Int.fdiv_eq_ediv_of_nonneg _ (by omega)]
def two (x : Int) : List Int := [x / 256 % 256, x % 256]
def four (x : Int) : List Int := [x / 16777216 % 256, x / 65536 % 256, x / 256 % 256, x % 256]
theorem spec_PutW_eq (l : List Int) (x : Int) (hl : l.length ≤ 1048576) : F_spec_PutW (l, x) = some (l ++ two x) := by
  unfold F_spec_PutW
  simp only [wrap_u8, fdiv8, List.nil_append, List.length_nil, List.length_cons]
  rw [if_pos (by omega), if_pos (by omega)]
  rfl
theorem joined2 (a b : List Int) (h : a.length + b.length ≤ 2097152) : F_impl_joined [a, b] = some (a ++ b) := by
  have hF : FUEL = (FUEL - 3) + 1 + 1 + 1 := by
    have := FUEL_eq
    omega
  unfold F_impl_joined L_impl_joined_3
  rw [hF]
  have s0 : ∀ again, S_impl_joined_3 (fun x1 => some x1) again ([a, b], (2 : Int), (0 : Int), ([] : List E_u8)) = again ([a, b], 2, 1, a) := by
    intro again
    unfold S_impl_joined_3
    have hw : Go.IntKind.wrap .i64 (0 + 1) = 1 := w64 (by omega) (by omega)
    have hr : rd_s_u8 [a, b] 0 = a := rfl
    simp only [hw, hr, List.length_nil, List.length_cons, List.nil_append]
    rw [if_pos (by omega), if_pos (by omega), if_pos (by omega)]
    rfl
  have s1 : ∀ again, S_impl_joined_3 (fun x1 => some x1) again ([a, b], (2 : Int), (1 : Int), a) = again ([a, b], 2, 2, a ++ b) := by
    intro again
    unfold S_impl_joined_3
    have hw : Go.IntKind.wrap .i64 (1 + 1) = 2 := w64 (by omega) (by omega)
    have hr : rd_s_u8 [a, b] 1 = b := rfl
    simp only [hw, hr, List.length_cons, List.length_nil]
    rw [if_pos (by omega), if_pos (by omega), if_pos (by omega)]
    rfl
  have s2 : ∀ again, S_impl_joined_3 (fun x1 => some x1) again ([a, b], (2 : Int), (2 : Int), a ++ b) = some (a ++ b) := by
    intro again
    unfold S_impl_joined_3
    rfl
  rw [show ((List.length [a, b] : Nat) : Int) = 2 from rfl, iter, s0, iter, s1, iter, s2]
theorem l17Four_eq (l : List Int) (x : Int) (hl : l.length ≤ 1048576) : F_spec_l17Four (l, x) = some (l ++ four x) := by
  unfold F_spec_l17Four
  simp only [wrap_u8, fdiv8, fdiv16, fdiv24, List.nil_append, List.length_nil, List.length_cons]
  rw [if_pos (by omega), if_pos (by omega)]
  rfl
theorem four_bytes (x : Int) : isBytes (four x) := by
  intro y hy
  simp only [four, List.mem_cons, List.mem_nil_iff, or_false] at hy
  rcases hy with h | h | h | h <;> subst h <;> omega
theorem isBytes_append {l m : List Int} (h : isBytes l) (h' : isBytes m) : isBytes (l ++ m) := fun x hx => (List.mem_append.1 hx).elim (h x) (h' x)
theorem by_set (l : List Int) (i : Nat) (v j : Int) (hj : j.toNat ≠ i) : by_ (l.set i v) j = by_ l j := by
  unfold by_
  rw [List.getD_eq_getElem?_getD, List.getD_eq_getElem?_getD, List.getElem?_set_ne (fun e => hj e.symm)]
theorem by_set_self (l : List Int) (i : Nat) (v : Int) (hi : i < l.length) : by_ (l.set i v) (i : Int) = v := by
  unfold by_
  rw [List.getD_eq_getElem?_getD, Int.toNat_natCast, List.getElem?_set_self hi]
  rfl
end Go.Proofs.Ytmanmgafjbnakaa.Pl

/- What is drawn: operations, entries. No condition. -/
namespace Go.Proofs.Ytmanmgafjbnakaa.Pl
open Go.Proofs.Ytmanmgafjbnakaa.R Go.Proofs.Ytmanmgafjbnakaa.XV
set_option linter.unusedVariables false
set_option linter.unusedSimpArgs false

theorem Str_ok (c : List Int) (p s : Int) (L : List ByteArray) (hL : 0 < L.length) (hL2 : L.length ≤ 1048576) (hs : ∀ t ∈ L, t.size ≤ 60) (h : curOk c p) : gives (F_spec_l1Str (c, p, s, L)) c (fun v => v.size ≤ 60) := by
  obtain ⟨v, p1, s1, e1, h1, q1⟩ := Below_ok c p s (L.length : Int) h
  have := q1.2 (by omega)
  unfold F_spec_l1Str
  rw [e1]
  simp only [Option.bind_some]
  rw [if_pos q1.1, if_pos this]
  exact ⟨_, _, _, rfl, h1, hs _ (getD_mem z_string L v q1.1 this)⟩
theorem Name_ok (c : List Int) (p s : Int) (h : curOk c p) : gives (F_spec_l1Name (c, p, s)) c (fun v => v.size ≤ 60) := by
  obtain ⟨v, p1, s1, e1, h1, q1⟩ := Str_ok c p s [{ data := #[97] }, { data := #[98] }, { data := #[99] }, { data := #[100] }, { data := #[101, 53] }] (by simp) (by simp) (by decide) h
  unfold F_spec_l1Name
  rw [e1]
  exact ⟨_, _, _, rfl, h1, q1⟩
theorem DrawW_ok (c : List Int) (p s : Int) (h : curOk c p) : gives (F_spec_l1Draw (c, p, s)) c (fun _ => True) := by
  obtain ⟨v, p1, s1, e1, h1, q1⟩ := Below_ok c p s 200 h
  unfold F_spec_l1Draw
  rw [e1]
  simp only [Option.bind_some]
  obtain ⟨v2, p2, s2, e2, h2, q2⟩ := Int_ok c p1 s1 [0, 1, 2, 7, 65535, Go.IntKind.wrap .i64 (1 + v)] (by simp) (by simp) h1
  rw [e2]
  exact ⟨_, _, _, rfl, h2, trivial⟩
/-- A step that gives an operation. -/
def givesO (o : Option (Int × ByteArray × ByteArray × Int × Int × List Int × Int × Int)) (c : List Int) : Prop := ∃ k n t a b p s, o = some (k, n, t, a, b, c, p, s) ∧ curOk c p ∧ ByteArray.size n ≤ 60 ∧ ByteArray.size t ≤ 60
theorem leafI {c : List Int} {p s : Int} {L : List Int} {k b : Int} {n t : ByteArray} (hL : 0 < L.length) (hL2 : L.length ≤ 1048576) (h : curOk c p) (hn : n.size ≤ 60) (ht : t.size ≤ 60) :
    givesO (Option.bind (F_spec_l1Int (c, p, s, L)) fun r => some (k, n, t, r.1, b, r.2.1, r.2.2.1, r.2.2.2)) c := by
  obtain ⟨v, p1, s1, e1, h1, _⟩ := Int_ok c p s L hL hL2 h
  rw [e1]
  exact ⟨_, _, _, _, _, _, _, rfl, h1, hn, ht⟩
theorem leafB {c : List Int} {p s m : Int} {k b : Int} {n t : ByteArray} (h : curOk c p) (hn : n.size ≤ 60) (ht : t.size ≤ 60) :
    givesO (Option.bind (F_spec_l1Below (c, p, s, m)) fun r => some (k, n, t, r.1, b, r.2.1, r.2.2.1, r.2.2.2)) c := by
  obtain ⟨v, p1, s1, e1, h1, _⟩ := Below_ok c p s m h
  rw [e1]
  exact ⟨_, _, _, _, _, _, _, rfl, h1, hn, ht⟩
theorem leafN {c : List Int} {p s : Int} {L : List Int} {k a : Int} {n : ByteArray} (hL : 0 < L.length) (hL2 : L.length ≤ 1048576) (h : curOk c p) (hn : n.size ≤ 60) :
    givesO (Option.bind (F_spec_l1Name (c, p, s)) fun r4 => Option.bind (F_spec_l1Int (r4.2.1, r4.2.2.1, r4.2.2.2, L)) fun r5 => some (k, n, r4.1, a, r5.1, r5.2.1, r5.2.2.1, r5.2.2.2)) c := by
  obtain ⟨v, p1, s1, e1, h1, q1⟩ := Name_ok c p s h
  rw [e1]
  simp only [Option.bind_some]
  obtain ⟨v2, p2, s2, e2, h2, _⟩ := Int_ok c p1 s1 L hL hL2 h1
  rw [e2]
  exact ⟨_, _, _, _, _, _, _, rfl, h2, hn, q1⟩
theorem leafW {c : List Int} {p s m : Int} {k : Int} {n t : ByteArray} (h : curOk c p) (hn : n.size ≤ 60) (ht : t.size ≤ 60) :
    givesO (Option.bind (F_spec_l1Below (c, p, s, m)) fun r6 => Option.bind (F_spec_l1Draw (r6.2.1, r6.2.2.1, r6.2.2.2)) fun r7 => some (k, n, t, r6.1, r7.1, r7.2.1, r7.2.2.1, r7.2.2.2)) c := by
  obtain ⟨v, p1, s1, e1, h1, _⟩ := Below_ok c p s m h
  rw [e1]
  simp only [Option.bind_some]
  obtain ⟨v2, p2, s2, e2, h2, _⟩ := DrawW_ok c p1 s1 h1
  rw [e2]
  exact ⟨_, _, _, _, _, _, _, rfl, h2, hn, ht⟩
theorem leaf0 {c : List Int} {p s k a b : Int} {n t : ByteArray} (h : curOk c p) (hn : n.size ≤ 60) (ht : t.size ≤ 60) : givesO (some (k, n, t, a, b, c, p, s)) c := ⟨_, _, _, _, _, _, _, rfl, h, hn, ht⟩
theorem size0 : (⟨#[]⟩ : ByteArray).size ≤ 60 := by decide
theorem cond_split {A : Type} {P : A → Prop} (b : Bool) {x y : A} (hx : P x) (hy : P y) : P (bif b then x else y) := by cases b <;> assumption
theorem Op_ok (c : List Int) (p s : Int) (h : curOk c p) : givesO (F_spec_l15Draw (c, p, s)) c := by
  unfold F_spec_l15Draw
  obtain ⟨v, p1, s1, e1, h1, _⟩ := Int_ok c p s [1, 1, 1, 2, 2, 3, 4, 4, 4, 4, 4, 4, 5, 6, 7, 7, 8, 9] (by simp) (by simp) h
  rw [e1]
  simp only [Option.bind_some]
  obtain ⟨n, p2, s2, e2, h2, hn⟩ := Str_ok c p1 s1 [{ data := #[97] }, { data := #[97] }, { data := #[98] }, { data := #[99] }, { data := #[100] }] (by simp) (by simp) (by decide) h1
  rw [e2]
  simp only [Option.bind_some]
  have hz := size0
  repeat' (first
    | with_reducible refine cond_split (P := fun o => givesO o c) _ ?_ ?_
    | with_reducible exact leafI (by simp) (by simp) h2 hn hz
    | with_reducible exact leafI (by simp) (by simp) h1 hz hz
    | with_reducible exact leafN (by simp) (by simp) h2 hn
    | with_reducible exact leafN (by simp) (by simp) h1 hz
    | with_reducible exact leafW h2 hn hz
    | with_reducible exact leafW h1 hz hz
    | with_reducible exact leafB h2 hn hz
    | with_reducible exact leafB h1 hz hz
    | with_reducible exact leaf0 h2 hn hz
    | with_reducible exact leaf0 h1 hz hz)
end Go.Proofs.Ytmanmgafjbnakaa.Pl

