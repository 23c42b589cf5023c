/- Base, Loops, Num, KeyTxt, Pool, MapTxt. No condition. -/
import Derived.Test.YtkjpediopepbkaaDoorDH0
import Derived.Laws.BitsLemmas
import Derived.Lib.ItoaLen
/- Plain words: loops, numbers, bytes, texts, the checksum. No condition. -/
namespace Go.Proofs.YtkjpediopepbkaaDoor.Pl
open Go.Proofs.YtkjpediopepbkaaDoor.R Go.Proofs.YtkjpediopepbkaaDoor.XH
set_option linter.unusedVariables false
set_option linter.unusedSimpArgs false

/-! ### Loops -/
/-- A loop's value by its measure. -/
theorem loop_lt {T R : Type} {step : (T → Option R) → T → Option R} (μ : T → Nat) (inv : T → Prop) (G : T → Option R)
    (h : ∀ again t, inv t → (∀ t', inv t' → μ t' < μ t → again t' = G t') → step again t = G t) : ∀ (n : Nat) (t : T), inv t → μ t < n → iter step n t = G t := by
  intro n
  induction n with
  | zero => intro t _ hn; omega
  | succ n ih =>
    intro t ht hn
    rw [iter]
    exact h _ t ht fun t' ht' hlt => ih t' ht' (by omega)
theorem loop_fuel {T R : Type} {step : (T → Option R) → T → Option R} (μ : T → Nat) (inv : T → Prop) (G : T → Option R)
    (h : ∀ again t, inv t → (∀ t', inv t' → μ t' < μ t → again t' = G t') → step again t = G t) (t : T) (ht : inv t) (hn : μ t < 18446744073709551616) : iter step FUEL t = G t :=
  loop_lt μ inv G h FUEL t ht (by rw [FUEL_eq]; exact hn)

/-! ### Numbers -/
theorem w64 {n : Int} (h0 : -9223372036854775808 ≤ n) (h1 : n ≤ 9223372036854775807) : Go.IntKind.wrap .i64 n = n := by
  rw [IntKind.wrap_i64]
  omega
def inR (x a b : Int) : Bool := decide (a ≤ x) && decide (x ≤ b)
theorem inR_iff {x a b : Int} : inR x a b = true ↔ a ≤ x ∧ x ≤ b := by simp [inR]
theorem wrap_small (n : Nat) (h : n < 9223372036854775808) : IntKind.i64.wrap (n : Int) = n := by
  rw [IntKind.wrap_i64]
  omega
theorem ofInt_toNat (x : Int) : ((BitVec.ofInt 64 x).toNat : Int) = x % 18446744073709551616 := by
  rw [BitVec.toNat_ofInt]
  omega
theorem and_mask (x : Int) (m : Nat) (j : Nat) (hj : j < 63) (hm : m = 2 ^ j - 1) : bits .and .i64 x m = x % (2 ^ j : Nat) := by
  have hd : (2 ^ j : Nat) ∣ 18446744073709551616 := by
    have : (18446744073709551616 : Nat) = 2 ^ j * 2 ^ (64 - j) := by rw [← Nat.pow_add, show j + (64 - j) = 64 by omega]
    rw [this]
    exact Nat.dvd_mul_right _ _
  have hlt : m < 18446744073709551616 := by
    have : 2 ^ j ≤ 2 ^ 64 := Nat.pow_le_pow_right (by omega) (by omega)
    have h1 : 0 < 2 ^ j := Nat.two_pow_pos j
    omega
  have hj63 : 2 ^ j < 9223372036854775808 := by
    have : 2 ^ j ≤ 2 ^ 62 := Nat.pow_le_pow_right (by omega) (by omega)
    omega
  show IntKind.i64.wrap ((BitVec.ofInt 64 x &&& BitVec.ofInt 64 (m : Int)).toNat : Int) = _
  rw [BitVec.toNat_and, BitVec.ofInt_natCast, BitVec.toNat_ofNat, Nat.mod_eq_of_lt hlt, hm, Nat.and_two_pow_sub_one_eq_mod]
  have h2 := Nat.mod_lt (BitVec.ofInt 64 x).toNat (Nat.two_pow_pos j)
  rw [wrap_small _ (by omega), Int.natCast_emod, ofInt_toNat]
  exact Int.emod_emod_of_dvd _ (Int.ofNat_dvd.2 hd)
theorem and255 (x : Int) : bits .and .i64 x 255 = x % 256 := and_mask x 255 8 (by omega) (by decide)
theorem and1 (x : Int) : bits .and .i64 x 1 = x % 2 := and_mask x 1 1 (by omega) (by decide)
theorem xor_nat (a b : Nat) (ha : a < 9223372036854775808) (hb : b < 9223372036854775808) : bits .xor .i64 (a : Int) (b : Int) = ((a ^^^ b : Nat) : Int) := by
  show IntKind.i64.wrap ((BitVec.ofInt 64 (a : Int) ^^^ BitVec.ofInt 64 (b : Int)).toNat : Int) = _
  rw [BitVec.toNat_xor, BitVec.ofInt_natCast, BitVec.ofInt_natCast, BitVec.toNat_ofNat, BitVec.toNat_ofNat, Nat.mod_eq_of_lt (by omega), Nat.mod_eq_of_lt (by omega)]
  exact wrap_small _ (Nat.xor_lt_two_pow (n := 63) ha hb)
theorem or_nat (a b : Nat) (ha : a < 9223372036854775808) (hb : b < 9223372036854775808) : bits .or .i64 (a : Int) (b : Int) = ((a ||| b : Nat) : Int) := by
  show IntKind.i64.wrap ((BitVec.ofInt 64 (a : Int) ||| BitVec.ofInt 64 (b : Int)).toNat : Int) = _
  rw [BitVec.toNat_or, BitVec.ofInt_natCast, BitVec.ofInt_natCast, BitVec.toNat_ofNat, BitVec.toNat_ofNat, Nat.mod_eq_of_lt (by omega), Nat.mod_eq_of_lt (by omega)]
  exact wrap_small _ (Nat.or_lt_two_pow (n := 63) ha hb)
/-- High bits beside low bits. -/
theorem or_join (j : Nat) (hj : j ≤ 62) (a b : Int) (h0 : 0 ≤ a) (h1 : a * 2 ^ j < 9223372036854775808) (hb0 : 0 ≤ b) (hb1 : b < 2 ^ j) : bits .or .i64 (a * 2 ^ j) b = a * 2 ^ j + b := by
  obtain ⟨a, rfl⟩ := Int.eq_ofNat_of_zero_le h0
  obtain ⟨b, rfl⟩ := Int.eq_ofNat_of_zero_le hb0
  have e2 : ((2 : Int) ^ j) = ((2 ^ j : Nat) : Int) := by rw [Int.natCast_pow]; rfl
  have hb1' : b < 2 ^ j := by
    rw [e2] at hb1
    exact Int.ofNat_lt.1 hb1
  have e : (a : Int) * 2 ^ j = ((a * 2 ^ j : Nat) : Int) := by rw [e2, Int.natCast_mul]
  rw [e] at h1 ⊢
  have ha : a * 2 ^ j < 9223372036854775808 := Int.ofNat_lt.1 h1
  have hor : a * 2 ^ j ||| b = a * 2 ^ j + b := by
    rw [← Nat.shiftLeft_eq, Nat.shiftLeft_add_eq_or_of_lt hb1']
  have h62 : 2 ^ j ≤ 2 ^ 62 := Nat.pow_le_pow_right (by omega) hj
  have hbl : b < 9223372036854775808 := by omega
  rw [or_nat _ _ ha hbl, hor, Int.natCast_add]
theorem xor_range (x y : Int) (hx0 : 0 ≤ x) (hx1 : x < 4294967296) (hy0 : 0 ≤ y) (hy1 : y < 4294967296) : 0 ≤ bits .xor .i64 x y ∧ bits .xor .i64 x y < 4294967296 := by
  obtain ⟨a, rfl⟩ := Int.eq_ofNat_of_zero_le hx0
  obtain ⟨b, rfl⟩ := Int.eq_ofNat_of_zero_le hy0
  rw [xor_nat a b (by omega) (by omega)]
  have := Nat.xor_lt_two_pow (n := 32) (x := a) (y := b) (by omega) (by omega)
  omega

/-! ### Bytes -/
def isBytes (l : List Int) : Prop := ∀ x ∈ l, 0 ≤ x ∧ x < 256
def by_ (l : List Int) (i : Int) : Int := l.getD i.toNat 0
theorem by_range {l : List Int} (h : isBytes l) (i : Int) : 0 ≤ by_ l i ∧ by_ l i < 256 := by
  unfold by_
  rw [List.getD_eq_getElem?_getD]
  cases hl : l[i.toNat]? with
  | none => simp
  | some x => exact h x (List.mem_of_getElem? hl)
theorem isBytes_take {l : List Int} (h : isBytes l) (n : Nat) : isBytes (l.take n) := fun x hx => h x (List.mem_of_mem_take hx)
theorem isBytes_drop {l : List Int} (h : isBytes l) (n : Nat) : isBytes (l.drop n) := fun x hx => h x (List.mem_of_mem_drop hx)
theorem by_take {l : List Int} {n : Nat} {i : Int} (hi : i.toNat < n) : by_ (l.take n) i = by_ l i := by
  unfold by_
  rw [List.getD_eq_getElem?_getD, List.getD_eq_getElem?_getD, List.getElem?_take, if_pos hi]

/-! ### The checksum -/
def crcBit (x : Int) : Int := if x % 2 = 1 then bits .xor .i64 (x / 2) 2197175160 else x / 2
def crcBits : Nat → Int → Int
  | 0, x => x
  | n + 1, x => crcBits n (crcBit x)
def crcStep (x b : Int) : Int := crcBits 8 (bits .xor .i64 x b)
def crc (l : List Int) : Int := bits .xor .i64 (l.foldl crcStep 4294967295) 4294967295
theorem crcBit_range (x : Int) (h0 : 0 ≤ x) (h1 : x < 4294967296) : 0 ≤ crcBit x ∧ crcBit x < 4294967296 := by
  unfold crcBit
  split
  · exact xor_range _ _ (by omega) (by omega) (by omega) (by omega)
  · omega
theorem crcBits_range : ∀ (n : Nat) (x : Int), 0 ≤ x → x < 4294967296 → 0 ≤ crcBits n x ∧ crcBits n x < 4294967296
  | 0, _, h0, h1 => ⟨h0, h1⟩
  | n + 1, x, h0, h1 => crcBits_range n _ (crcBit_range x h0 h1).1 (crcBit_range x h0 h1).2
theorem crcStep_range (x b : Int) (h0 : 0 ≤ x) (h1 : x < 4294967296) (hb0 : 0 ≤ b) (hb1 : b < 256) : 0 ≤ crcStep x b ∧ crcStep x b < 4294967296 := by
  have := xor_range x b h0 h1 hb0 (by omega)
  exact crcBits_range 8 _ this.1 this.2
end Go.Proofs.YtkjpediopepbkaaDoor.Pl

/- Loops over lists: copies, comparisons, sizes. No condition. -/
namespace Go.Proofs.YtkjpediopepbkaaDoor.Pl
open Go.Proofs.YtkjpediopepbkaaDoor.R Go.Proofs.YtkjpediopepbkaaDoor.XH
set_option linter.unusedVariables false
set_option linter.unusedSimpArgs false

/-- What holds of every round's answer holds of the loop's. -/
theorem loop_prop {T R : Type} {step : (T → Option R) → T → Option R} (μ : T → Nat) (inv : T → Prop) (Q : T → Option R → Prop)
    (h : ∀ again t, inv t → (∀ t', inv t' → μ t' < μ t → Q t' (again t')) → Q t (step again t)) (t : T) (ht : inv t) (hn : μ t < 18446744073709551616) : Q t (iter step FUEL t) := by
  have key : ∀ (n : Nat) (t : T), inv t → μ t < n → Q t (iter step n t) := by
    intro n
    induction n with
    | zero => intro t _ hn; omega
    | succ n ih =>
      intro t ht hn
      rw [iter]
      exact h _ t ht fun t' ht' hlt => ih t' ht' (by omega)
  exact key FUEL t ht (by rw [FUEL_eq]; exact hn)
theorem getD_get {A : Type} (da : A) (l : List A) (i : Int) (h0 : 0 ≤ i) (h : i < l.length) : l.getD i.toNat da = l[i.toNat]'(by omega) := by
  rw [List.getD_eq_getElem?_getD, List.getElem?_eq_getElem (by omega)]
  rfl
theorem getD_mem {A : Type} (da : A) (l : List A) (i : Int) (h0 : 0 ≤ i) (h : i < l.length) : l.getD i.toNat da ∈ l := by
  rw [getD_get da l i h0 h]
  exact List.getElem_mem _
theorem drop_getD {A : Type} (da : A) (l : List A) (i : Int) (h0 : 0 ≤ i) (h : i < l.length) : l.drop i.toNat = l.getD i.toNat da :: l.drop (i + 1).toNat := by
  rw [getD_get da l i h0 h, show (i + 1).toNat = i.toNat + 1 by omega, ← List.drop_eq_getElem_cons]
theorem copy_loop {A R : Type} (da : A) {step : (List A × Int × List A → Option R) → List A × Int × List A → Option R} (k : List A → Option R) (l : List A) (hl : l.length ≤ 1099511627776)
    (h : ∀ again i o, 0 ≤ i → i < (l.length : Int) → o.length = l.length → step again (l, i, o) = again (l, i + 1, o.set i.toNat (l.getD i.toNat da)))
    (hd : ∀ again i o, ¬ i < (l.length : Int) → step again (l, i, o) = k o) (o : List A) (ho : o.length = l.length) : iter step FUEL (l, 0, o) = k l := by
  rw [loop_fuel (fun t : List A × Int × List A => t.1.length - t.2.1.toNat) (fun t => t.1 = l ∧ 0 ≤ t.2.1 ∧ t.2.1 ≤ l.length ∧ t.2.2.length = l.length) (fun t => k (t.2.2.take t.2.1.toNat ++ l.drop t.2.1.toNat)) ?_ (l, 0, o) ⟨rfl, by simp, by simp, ho⟩ (by simp; omega)]
  · simp
  · rintro again ⟨l', i, o⟩ ⟨rfl, h0, h1, hlen⟩ hag
    simp only at h0 h1 hlen hl ⊢
    by_cases hi : i < (l'.length : Int)
    · rw [h again i o h0 hi hlen, hag (l', i + 1, _) ⟨rfl, by simp only; omega, by simp only; omega, by simpa using hlen⟩ (by simp only; omega), drop_getD da l' i h0 hi]
      have e1 : (i + 1).toNat = i.toNat + 1 := by omega
      have hn : i.toNat < o.length := by omega
      simp only [e1]
      rw [List.take_succ_eq_append_getElem (by simpa using hn), List.take_set_of_le (Nat.le_refl _)]
      simp
    · have : i.toNat = l'.length := by omega
      rw [hd again i o hi, List.drop_of_length_le (by omega), List.take_of_length_le (by omega)]
      simp
theorem eq_loop {A R : Type} {step : (List A × List A × Int → Option R) → List A × List A × Int → Option R} (k : Unit → Option R) (l : List A) (hl : l.length ≤ 1099511627776)
    (h : ∀ again i, 0 ≤ i → i < (l.length : Int) → step again (l, l, i) = again (l, l, i + 1))
    (hd : ∀ again i, ¬ i < (l.length : Int) → step again (l, l, i) = k ()) : iter step FUEL (l, l, 0) = k () := by
  rw [loop_fuel (fun t : List A × List A × Int => t.1.length - t.2.2.toNat) (fun t => t.1 = l ∧ t.2.1 = l ∧ 0 ≤ t.2.2 ∧ t.2.2 ≤ l.length) (fun _ => k ()) ?_ (l, l, 0) ⟨rfl, rfl, by simp, by simp⟩ (by simp; omega)]
  rintro again ⟨a, b, i⟩ ⟨h1, h2, h0, h3⟩ hag
  simp only at h1 h2 h0 h3 ⊢
  subst h1 h2
  by_cases hi : i < (b.length : Int)
  · rw [h again i h0 hi]
    exact hag (b, b, i + 1) ⟨rfl, rfl, by simp only; omega, by simp only; omega⟩ (by simp only; omega)
  · exact hd again i hi
def sumW {A : Type} (w : A → Int) (l : List A) : Int := l.foldr (fun a s => w a + s) 0
theorem sumW_cons {A : Type} (w : A → Int) (a : A) (l : List A) : sumW w (a :: l) = w a + sumW w l := rfl
theorem sumW_mem {A : Type} {w : A → Int} (hw : ∀ a, 0 ≤ w a) : ∀ {l : List A} {a : A}, a ∈ l → w a ≤ sumW w l ∧ 0 ≤ sumW w l
  | b :: l, a, h => by
    have hs : 0 ≤ sumW w l := by
      clear h
      induction l with
      | nil => exact Int.le_refl _
      | cons c l ih => rw [sumW_cons]; have := hw c; omega
    rw [sumW_cons]
    have := hw b
    rcases List.mem_cons.1 h with rfl | h
    · omega
    · have := (sumW_mem hw h).1
      omega
theorem sumW_nonneg {A : Type} {w : A → Int} (hw : ∀ a, 0 ≤ w a) (l : List A) : 0 ≤ sumW w l := by
  induction l with
  | nil => exact Int.le_refl _
  | cons c l ih => rw [sumW_cons]; have := hw c; omega
/-- What a size function answers: it is over, or the weight is taken off. -/
def szOk (n w : Int) (o : Option Int) : Prop := ∃ r, o = some r ∧ (r < 0 ∨ (0 ≤ r ∧ r = n - w))
theorem sz_loop {A R : Type} (da : A) (w : A → Int) (f : A → Int → Option Int) {step : (List A × Int × Int → Option R) → List A × Int × Int → Option R} (k0 : Int × Int → Option R) (k1 : Int → Option R) (l : List A) (hl : l.length ≤ 1099511627776)
    (hw : ∀ a, 0 ≤ w a) (hf : ∀ a ∈ l, ∀ n, 0 ≤ n → n ≤ 1048576 → szOk n (w a) (f a n))
    (h : ∀ again n i r, 0 ≤ i → i < (l.length : Int) → f (l.getD i.toNat da) n = some r → step again (l, n, i) = if r < 0 then k0 (r, -1) else again (l, r, i + 1))
    (hd : ∀ again n i, ¬ i < (l.length : Int) → step again (l, n, i) = k1 n) (n : Int) (hn0 : 0 ≤ n) (hn1 : n ≤ 1048576) :
    (∃ r, iter step FUEL (l, n, 0) = k0 (r, -1)) ∨ (∃ r, 0 ≤ r ∧ r = n - sumW w l ∧ iter step FUEL (l, n, 0) = k1 r) := by
  have key := loop_prop (step := step) (fun t : List A × Int × Int => t.1.length - t.2.2.toNat) (fun t => t.1 = l ∧ 0 ≤ t.2.1 ∧ t.2.1 ≤ 1048576 ∧ 0 ≤ t.2.2 ∧ t.2.2 ≤ l.length)
    (fun t res => (∃ r, res = k0 (r, -1)) ∨ (∃ r, 0 ≤ r ∧ r = t.2.1 - sumW w (l.drop t.2.2.toNat) ∧ res = k1 r)) ?_ (l, n, 0) ⟨rfl, hn0, hn1, by simp, by simp⟩ (by simp; omega)
  · simpa using key
  · rintro again ⟨l', n, i⟩ ⟨rfl, a0, a1, h0, h1⟩ hag
    simp only at a0 a1 h0 h1 hl ⊢
    by_cases hi : i < (l'.length : Int)
    · obtain ⟨r, hr, hc⟩ := hf _ (getD_mem da l' i h0 hi) n a0 a1
      have := hw (l'.getD i.toNat da)
      rw [h again n i r h0 hi hr, drop_getD da l' i h0 hi, sumW_cons]
      rcases hc with hc | ⟨hc0, hc1⟩
      · rw [if_pos hc]
        exact .inl ⟨r, rfl⟩
      · rw [if_neg (by omega)]
        rcases hag (l', r, i + 1) ⟨rfl, hc0, by simp only; omega, by simp only; omega, by simp only; omega⟩ (by simp only; omega) with hh | ⟨r', q0, q1, q2⟩
        · exact .inl hh
        · exact .inr ⟨r', q0, by simp only at q1; omega, q2⟩
    · rw [hd again n i hi, List.drop_of_length_le (by omega)]
      exact .inr ⟨n, a0, by simp [sumW], rfl⟩
end Go.Proofs.YtkjpediopepbkaaDoor.Pl

/- Decimal numerals, there: what spec.NumText gives. No condition. -/
namespace Go.Proofs.YtkjpediopepbkaaDoor.Pl
open Go.Proofs.YtkjpediopepbkaaDoor.R Go.Proofs.YtkjpediopepbkaaDoor.XH
set_option linter.unusedVariables false
set_option linter.unusedSimpArgs false

/-- The digits of u; none for nought. -/
def dz (u : Nat) : List UInt8 := if u = 0 then [] else Lib.decDigits u
theorem dz_step {u : Nat} (h : u ≠ 0) : dz u = dz (u / 10) ++ [UInt8.ofNat (48 + u % 10)] := by
  unfold dz
  rw [if_neg h, Lib.decDigits]
  by_cases h10 : u < 10
  · rw [dif_pos h10, if_pos (by omega), show u % 10 = u by omega]
    rfl
  · rw [dif_neg h10, if_neg (by omega)]
theorem digB (d : Nat) (h : d < 10) : textOf ([(Go.IntKind.wrap .u8 (Go.IntKind.wrap .i64 ((48 : Int) + (d : Int))))] : List E_u8) = ⟨#[UInt8.ofNat (48 + d)]⟩ := by
  have : d = 0 ∨ d = 1 ∨ d = 2 ∨ d = 3 ∨ d = 4 ∨ d = 5 ∨ d = 6 ∨ d = 7 ∨ d = 8 ∨ d = 9 := by omega
  rcases this with rfl | rfl | rfl | rfl | rfl | rfl | rfl | rfl | rfl | rfl <;> rfl
theorem td10 (x : Int) : (0 ≤ x ∧ Int.tdiv x 10 = x / 10 ∧ Int.tmod x 10 = x % 10) ∨ (x < 0 ∧ Int.tdiv x 10 = -((-x) / 10) ∧ Int.tmod x 10 = -((-x) % 10)) := by
  by_cases h : 0 ≤ x
  · exact .inl ⟨h, Int.tdiv_eq_ediv_of_nonneg h, Int.tmod_eq_emod_of_nonneg h⟩
  · refine .inr ⟨by omega, ?_, ?_⟩
    · have h1 : Int.tdiv (-(-x)) 10 = -(Int.tdiv (-x) 10) := Int.neg_tdiv ..
      rw [Int.neg_neg] at h1
      rw [h1, Int.tdiv_eq_ediv_of_nonneg (by omega)]
    · have h1 : Int.tmod (-(-x)) 10 = -(Int.tmod (-x) 10) := Int.neg_tmod ..
      rw [Int.neg_neg] at h1
      rw [h1, Int.tmod_eq_emod_of_nonneg (by omega)]
theorem pow_grow (k : Nat) : ∀ s : Nat, 19 ≤ s → 9223372036854775808 < 10 ^ s := by
  intro s hs
  have := Nat.pow_le_pow_right (show 0 < 10 by decide) hs
  omega
theorem data_cons (c : UInt8) (s : ByteArray) : ((show ByteArray from ⟨#[c]⟩) ++ s) = ⟨(c :: s.data.toList).toArray⟩ := by
  apply ByteArray.ext
  rw [ByteArray.data_append]
  apply Array.ext'
  simp
theorem num_loop {R : Type} (k : Int × ByteArray → Option R) (x0 x : Int) (h0 : -9223372036854775808 ≤ x) (h1 : x ≤ 9223372036854775807) : L_spec_NumText_5 k (x0, ⟨#[]⟩, x) = k (x0, ⟨(dz x.natAbs).toArray⟩) := by
  unfold L_spec_NumText_5
  rw [loop_fuel (fun t : Int × ByteArray × Int => t.2.2.natAbs) (fun t => t.1 = x0 ∧ -9223372036854775808 ≤ t.2.2 ∧ t.2.2 ≤ 9223372036854775807 ∧ t.2.2.natAbs * 10 ^ t.2.1.size ≤ 9223372036854775808) (fun t => k (x0, ⟨(dz t.2.2.natAbs ++ t.2.1.data.toList).toArray⟩)) ?_ (x0, ⟨#[]⟩, x) ⟨rfl, h0, h1, by simp [ByteArray.size]; omega⟩ (by simp only; omega)]
  · simp
  · rintro again ⟨y, s, x⟩ ⟨rfl, h0, h1, hp⟩ hag
    simp only at h0 h1 hp ⊢
    unfold S_spec_NumText_5
    simp only [Bool.cond_eq_ite, decide_eq_true_eq, bne_iff_ne, ne_eq]
    by_cases hx : x = 0
    · rw [if_neg (by simpa using hx)]
      subst hx
      simp [dz]
    · rw [if_pos (by simpa using hx)]
      have hs : s.size ≤ 18 := by
        by_cases hs : 19 ≤ s.size
        · have := pow_grow 0 s.size hs
          have h2 : 1 * 10 ^ s.size ≤ x.natAbs * 10 ^ s.size := Nat.mul_le_mul_right _ (by omega)
          omega
        · omega
      have htd := td10 x
      generalize hq : Int.tdiv x 10 = q at htd ⊢
      generalize hm : Int.tmod x 10 = m at htd ⊢
      have hd : Go.IntKind.wrap .i64 q = q := w64 (by omega) (by omega)
      have hna : q.natAbs = x.natAbs / 10 := by omega
      have next : ∀ c : UInt8, c = UInt8.ofNat (48 + x.natAbs % 10) → again (y, ((show ByteArray from ⟨#[c]⟩) ++ s), q) = k (y, ⟨(dz x.natAbs ++ s.data.toList).toArray⟩) := by
        intro c hc
        rw [hag (y, _, q) ⟨rfl, by simp only; omega, by simp only; omega, ?_⟩ (by simp only; omega)]
        · rw [data_cons]
          simp only [hna]
          rw [dz_step (u := x.natAbs) (by omega), hc]
          simp
        · simp only [hna]
          rw [data_cons]
          have e : (ByteArray.mk (c :: s.data.toList).toArray).size = s.size + 1 := by
            show (c :: s.data.toList).toArray.size = s.data.size + 1
            rw [List.size_toArray, List.length_cons, Array.length_toList]
          rw [e, Nat.pow_succ]
          have : x.natAbs / 10 * (10 ^ s.size * 10) = (x.natAbs / 10 * 10) * 10 ^ s.size := by rw [Nat.mul_comm (10 ^ s.size) 10, ← Nat.mul_assoc]
          rw [this]
          exact Nat.le_trans (Nat.mul_le_mul_right _ (by omega)) hp
      by_cases hneg : m < 0
      · have e : Go.IntKind.wrap .i64 (0 - m) = ((x.natAbs % 10 : Nat) : Int) := by
          rw [w64 (by omega) (by omega)]
          omega
        rw [if_pos hneg, e, digB _ (by omega), if_pos (show (ByteArray.mk #[UInt8.ofNat (48 + x.natAbs % 10)]).size + s.size < 140737488355328 from show 1 + s.size < 140737488355328 by omega), hd]
        exact next _ rfl
      · have e : m = ((x.natAbs % 10 : Nat) : Int) := by omega
        rw [if_neg hneg, e, digB _ (by omega), if_pos (show (ByteArray.mk #[UInt8.ofNat (48 + x.natAbs % 10)]).size + s.size < 140737488355328 from show 1 + s.size < 140737488355328 by omega), hd]
        exact next _ rfl
/-- The numeral of an int is the shelf's. -/
theorem NumText_eq (x : Int) (h0 : -9223372036854775808 ≤ x) (h1 : x ≤ 9223372036854775807) : F_spec_NumText x = some (itoaB x) := by
  unfold F_spec_NumText
  simp only [Bool.cond_eq_ite, decide_eq_true_eq, beq_iff_eq]
  by_cases hx : x = 0
  · subst hx
    rw [if_pos rfl]
    unfold itoaB Lib.itoa
    rw [if_neg (by decide), show Int.toNat 0 = 0 from rfl, Lib.decDigits_one (by decide)]
    rfl
  · rw [if_neg hx, num_loop _ x x h0 h1]
    have hl : (dz x.natAbs).length ≤ 64 := by
      unfold dz
      split
      · simp
      · rw [Lib.decDigits_length]
        have : ∀ (f u : Nat), u < 10 ^ f → Lib.nDigits u ≤ f + 1 := by
          intro f
          induction f with
          | zero => intro u hu; rw [Lib.nDigits_small (by omega)]; omega
          | succ f ih =>
            intro u hu
            rw [Lib.nDigits]
            split
            · omega
            · have := ih (u / 10) (by rw [Nat.pow_succ] at hu; omega)
              omega
        have := this 20 x.natAbs (by omega)
        omega
    unfold itoaB Lib.itoa
    by_cases hn : x < 0
    · rw [if_pos hn, if_pos hn, if_pos (by simp [ByteArray.size]; omega)]
      congr 1
      have := data_cons 45 ⟨(dz x.natAbs).toArray⟩
      simp only [List.toList_toArray] at this
      rw [dz, if_neg (by omega)] at this
      rw [dz, if_neg (by omega)]
      exact this
    · rw [if_neg hn, if_neg hn, dz, if_neg (by omega), show x.natAbs = x.toNat by omega]
theorem Itoa_eq (x : Int) (h0 : -9223372036854775808 ≤ x) (h1 : x ≤ 9223372036854775807) : F_strconv_Itoa x = some (itoaB x) := by
  unfold F_strconv_Itoa
  rw [if_pos h0, if_pos h1]
theorem implNum_eq (x : Int) (h0 : -9223372036854775808 ≤ x) (h1 : x ≤ 9223372036854775807) : F_impl_NumText x = some (itoaB x) := by
  unfold F_impl_NumText
  rw [Itoa_eq x h0 h1]
  rfl
theorem i64_of {x : Int} (h : (Lit.int .i64 x).wf = true) : -9223372036854775808 ≤ x ∧ x ≤ 9223372036854775807 := by
  have e1 : IntKind.i64.min = -9223372036854775808 := rfl
  have e2 : IntKind.i64.max = 9223372036854775807 := rfl
  simp [Lit.wf, e1, e2] at h
  exact h
end Go.Proofs.YtkjpediopepbkaaDoor.Pl

/- The texts of keys: there, and alike on both sides. No condition. -/
namespace Go.Proofs.YtkjpediopepbkaaDoor.Pl
open Go.Proofs.YtkjpediopepbkaaDoor.R Go.Proofs.YtkjpediopepbkaaDoor.XH
set_option linter.unusedVariables false
set_option linter.unusedSimpArgs false

theorem itoaB_size (x : Int) (h0 : -9223372036854775808 ≤ x) (h1 : x ≤ 9223372036854775807) : (itoaB x).size ≤ 21 := by
  have h : (itoaB x).size = (Lib.itoa x).length := by simp [itoaB, ByteArray.size]
  have := Lib.itoa_length_le x h0 h1
  omega
def i64r (x : Int) : Prop := -9223372036854775808 ≤ x ∧ x ≤ 9223372036854775807
theorem KeyText_ok (a b c d e : Int) (ha : i64r a) (hb : i64r b) (hd : i64r d) : ∃ s, F_spec_KeyText (a, b, c, d, e) = some s ∧ F_impl_KeyText (a, b, c, d, e) = some s := by
  have l46 : (ByteArray.mk #[46]).size = 1 := rfl
  have l61 : (ByteArray.mk #[61]).size = 1 := rfl
  have l45 : (ByteArray.mk #[45]).size = 1 := rfl
  have l63 : (ByteArray.mk #[63]).size = 1 := rfl
  unfold F_spec_KeyText F_impl_KeyText
  simp only [NumText_eq a ha.1 ha.2, implNum_eq a ha.1 ha.2, NumText_eq b hb.1 hb.2, implNum_eq b hb.1 hb.2, NumText_eq d hd.1 hd.2, implNum_eq d hd.1 hd.2, Option.bind_some]
  have sa := itoaB_size a ha.1 ha.2
  have sb := itoaB_size b hb.1 hb.2
  have sd := itoaB_size d hd.1 hd.2
  generalize itoaB a = A at sa ⊢
  generalize itoaB b = B at sb ⊢
  generalize itoaB d = D at sd ⊢
  simp only [Bool.cond_eq_ite, beq_iff_eq, ByteArray.size_append, l46, l61, l45, l63]
  rw [if_pos (by omega), if_pos (by omega)]
  by_cases h1 : c = 1
  · rw [if_pos h1, if_pos (by omega), if_pos (by omega)]
    exact ⟨_, rfl, rfl⟩
  · rw [if_neg h1]
    by_cases h2 : c = 2
    · rw [if_pos h2, if_pos (by omega)]
      exact ⟨_, rfl, rfl⟩
    · rw [if_neg h2, if_pos (by omega)]
      exact ⟨_, rfl, rfl⟩
end Go.Proofs.YtkjpediopepbkaaDoor.Pl

/- Pools: copies, comparisons, sizes. No condition. -/
namespace Go.Proofs.YtkjpediopepbkaaDoor.Pl
open Go.Proofs.YtkjpediopepbkaaDoor.R Go.Proofs.YtkjpediopepbkaaDoor.XH
set_option linter.unusedVariables false
set_option linter.unusedSimpArgs false

theorem sz_flat (n : Int) (m : Nat) (hn0 : 0 ≤ n) (hn1 : n ≤ 1048576) (hm : m ≤ maxLen) : szOk n m (bif decide (Go.IntKind.wrap .i64 (n - ((m : Nat) : Int)) < (0 : Int)) then some (-1 : Int) else some (Go.IntKind.wrap .i64 (n - ((m : Nat) : Int)))) := by
  simp only [maxLen] at hm
  rw [w64 (n := n - m) (by omega) (by omega)]
  simp only [Bool.cond_eq_ite, decide_eq_true_eq]
  by_cases h : n - m < 0
  · rw [if_pos h]
    exact ⟨-1, rfl, .inl (by omega)⟩
  · rw [if_neg h]
    exact ⟨_, rfl, .inr ⟨by omega, rfl⟩⟩
end Go.Proofs.YtkjpediopepbkaaDoor.Pl

/- The texts of maps: there, and alike on both sides. No condition. -/
namespace Go.Proofs.YtkjpediopepbkaaDoor.Pl
open Go.Proofs.YtkjpediopepbkaaDoor.R Go.Proofs.YtkjpediopepbkaaDoor.XH
set_option linter.unusedVariables false
set_option linter.unusedSimpArgs false

def bb (l : List UInt8) : ByteArray := ⟨l.toArray⟩
theorem bb_app (a b : List UInt8) : bb a ++ bb b = bb (a ++ b) := by
  apply ByteArray.ext
  rw [ByteArray.data_append]
  apply Array.ext'
  simp [bb]
theorem bb_size (a : List UInt8) : (bb a).size = a.length := by simp [bb, ByteArray.size]
theorem bb_nil (s : ByteArray) : s ++ bb [] = s := by
  apply ByteArray.ext
  rw [ByteArray.data_append]
  simp [bb]
/-- What is still to come from element i on. -/
def restB (l : List Int) (i : Nat) : List UInt8 := if i = 0 then Lib.join (l.map Lib.itoa) [44] else Lib.joinTail [44] ((l.drop i).map Lib.itoa)
theorem restB_step (l : List Int) (i : Nat) (h : i < l.length) : restB l i = (if i = 0 then [] else [44]) ++ Lib.itoa l[i] ++ restB l (i + 1) := by
  unfold restB
  rw [if_neg (show ¬ i + 1 = 0 by omega)]
  by_cases hi : i = 0
  · subst hi
    cases l with
    | nil => simp at h
    | cons x r => simp [Lib.join_cons]
  · rw [if_neg hi, if_neg hi, List.drop_eq_getElem_cons h]
    simp only [Lib.joinTail, List.map_cons, List.flatten_cons, List.append_assoc]
theorem restB_end (l : List Int) : restB l l.length = [] := by
  unfold restB
  split
  · rename_i h
    have : l = [] := List.length_eq_zero_iff.1 h
    subst this
    rfl
  · simp [Lib.joinTail]
theorem itoa_len (x : Int) (h : i64r x) : (Lib.itoa x).length ≤ 21 := Lib.itoa_length_le x h.1 h.2
theorem rest_len (l : List Int) (hl : ∀ x ∈ l, i64r x) : ∀ (n i : Nat), i + n = l.length → (restB l i).length ≤ 22 * n
  | 0, i, h => by
    have : i = l.length := by omega
    rw [this, restB_end]
    simp
  | n + 1, i, h => by
    rw [restB_step l i (by omega)]
    have h1 := rest_len l hl n (i + 1) (by omega)
    have h2 := itoa_len l[i] (hl _ (List.getElem_mem _))
    simp only [List.length_append]
    split <;> simp <;> omega
theorem spec_loop (k : ByteArray → Option ByteArray) (nm : ByteArray) (fx : Bool) (l : List Int) (hl : l.length ≤ 1048576) (hr : ∀ x ∈ l, i64r x) (s : ByteArray) (hs : s.size ≤ 1048600) : L_spec_MapText_6 k (s, 0, nm, fx, l) = k (s ++ bb (restB l 0)) := by
  have l44 : (ByteArray.mk #[44]).size = 1 := rfl
  unfold L_spec_MapText_6
  rw [loop_fuel (fun t : ByteArray × Int × ByteArray × Bool × List Int => t.2.2.2.2.length - t.2.1.toNat) (fun t => t.2.2.2.2 = l ∧ 0 ≤ t.2.1 ∧ t.2.1 ≤ l.length ∧ (t.1.size : Int) ≤ 1048600 + 22 * t.2.1) (fun t => k (t.1 ++ bb (restB l t.2.1.toNat))) ?_ (s, 0, nm, fx, l) ⟨rfl, by simp, by simp, by simp only; omega⟩ (by simp only; omega)]
  · rfl
  · rintro again ⟨s, i, nm, fx, l'⟩ ⟨rfl, h0, h1, h2⟩ hag
    simp only at h0 h1 h2 hl hr ⊢
    unfold S_spec_MapText_6
    simp only [Bool.cond_eq_ite, decide_eq_true_eq]
    by_cases hi : i < (l'.length : Int)
    · have hn : i.toNat < l'.length := by omega
      have e : rd_i64 l' i = l'[i.toNat] := getD_get _ l' i h0 hi
      have hx := hr _ (List.getElem_mem hn)
      have hz := itoaB_size _ hx.1 hx.2
      have hw : Go.IntKind.wrap .i64 (i + 1) = i + 1 := w64 (by omega) (by omega)
      have hit : itoaB l'[i.toNat] = bb (Lib.itoa l'[i.toNat]) := rfl
      have e1 : (i + 1).toNat = i.toNat + 1 := by omega
      rw [if_pos hi]
      by_cases hp : 0 < i
      · rw [if_pos hp, if_pos (show s.size + (ByteArray.mk #[44]).size < 140737488355328 by omega), if_pos h0, if_pos hi, e, NumText_eq _ hx.1 hx.2, Option.bind_some, if_pos (by rw [ByteArray.size_append]; omega), hw]
        refine (hag (s ++ ByteArray.mk #[44] ++ itoaB l'[i.toNat], i + 1, nm, fx, l') ⟨rfl, by simp only; omega, by simp only; omega, by simp only [ByteArray.size_append]; omega⟩ (by simp only; omega)).trans ?_
        simp only [e1]
        rw [restB_step l' i.toNat hn, if_neg (by omega), hit, ByteArray.append_assoc, ByteArray.append_assoc, ← bb_app, ← bb_app, ByteArray.append_assoc]
        rfl
      · rw [if_neg hp, if_pos h0, if_pos hi, e, NumText_eq _ hx.1 hx.2, Option.bind_some, if_pos (by omega), hw]
        refine (hag (s ++ itoaB l'[i.toNat], i + 1, nm, fx, l') ⟨rfl, by simp only; omega, by simp only; omega, by simp only [ByteArray.size_append]; omega⟩ (by simp only; omega)).trans ?_
        simp only [e1]
        rw [restB_step l' i.toNat hn, if_pos (by omega), hit, ByteArray.append_assoc, List.nil_append, ← bb_app]
    · rw [if_neg hi, show i.toNat = l'.length by omega, restB_end, bb_nil]
theorem impl_loop (k : ByteArray × List ByteArray → Option ByteArray) (nm : ByteArray) (l : List Int) (hl : l.length ≤ 1048576) (hr : ∀ x ∈ l, i64r x) : L_impl_MapText_6 k (nm, l, (l.length : Int), 0, []) = k (nm, l.map itoaB) := by
  unfold L_impl_MapText_6
  rw [loop_fuel (fun t : ByteArray × List Int × Int × Int × List ByteArray => t.2.1.length - t.2.2.2.1.toNat) (fun t => t.1 = nm ∧ t.2.1 = l ∧ t.2.2.1 = (l.length : Int) ∧ 0 ≤ t.2.2.2.1 ∧ t.2.2.2.1 ≤ l.length ∧ t.2.2.2.2.length = t.2.2.2.1.toNat) (fun t => k (nm, t.2.2.2.2 ++ (l.drop t.2.2.2.1.toNat).map itoaB)) ?_ (nm, l, (l.length : Int), 0, []) ⟨rfl, rfl, rfl, by simp, by simp, rfl⟩ (by simp only; omega)]
  · simp
  · rintro again ⟨nm', l', n, i, o⟩ ⟨rfl, rfl, hn, h0, h1, h2⟩ hag
    simp only at hn h0 h1 h2 hl hr ⊢
    subst hn
    unfold S_impl_MapText_6
    simp only [Bool.cond_eq_ite, decide_eq_true_eq]
    by_cases hi : i < (l'.length : Int)
    · have hn : i.toNat < l'.length := by omega
      have e : rd_i64 l' i = l'[i.toNat] := getD_get _ l' i h0 hi
      have hx := hr _ (List.getElem_mem hn)
      have hw : Go.IntKind.wrap .i64 (i + 1) = i + 1 := w64 (by omega) (by omega)
      have e1 : (i + 1).toNat = i.toNat + 1 := by omega
      rw [if_pos hi, if_pos h0, if_pos hi, e, implNum_eq _ hx.1 hx.2, Option.bind_some, if_pos (by simp only [List.length_cons, List.length_nil]; omega), hw]
      refine (hag (nm', l', (l'.length : Int), i + 1, o ++ [itoaB l'[i.toNat]]) ⟨rfl, rfl, rfl, by simp only; omega, by simp only; omega, by simp only [List.length_append, List.length_cons, List.length_nil]; omega⟩ (by simp only; omega)).trans ?_
      simp only [e1]
      rw [List.drop_eq_getElem_cons hn, List.map_cons, List.append_assoc, List.singleton_append]
    · rw [if_neg hi, List.drop_of_length_le (by omega)]
      simp
theorem join_map (l : List Int) : joinB (l.map itoaB) ⟨#[44]⟩ = bb (restB l 0) := by
  unfold joinB restB bb
  rw [if_pos rfl]
  congr 3
  rw [List.map_map]
  rfl
theorem MapText_ok (nm : ByteArray) (fx : Bool) (l : List Int) (hn : nm.size ≤ 1048576) (hl : l.length ≤ 1048576) (hr : ∀ x ∈ l, i64r x) : ∃ s, F_spec_MapText (nm, fx, l) = some s ∧ F_impl_MapText (nm, fx, l) = some s := by
  have l33 : (ByteArray.mk #[33]).size = 1 := rfl
  have l58 : (ByteArray.mk #[58]).size = 1 := rfl
  have hb := rest_len l hr l.length 0 (by omega)
  have hj : ∀ t : ByteArray, t.size ≤ 1048580 → (if ByteArray.size t + ByteArray.size (ByteArray.mk #[58]) < 140737488355328 then Option.bind (F_strings_Join (l.map itoaB, ⟨#[44]⟩)) fun r3 => if ByteArray.size (t ++ ByteArray.mk #[58]) + ByteArray.size r3 < 140737488355328 then some ((t ++ ByteArray.mk #[58]) ++ r3) else none else none) = some ((t ++ ByteArray.mk #[58]) ++ bb (restB l 0)) := by
    intro t ht
    have : F_strings_Join (l.map itoaB, ⟨#[44]⟩) = some (bb (restB l 0)) := by
      unfold F_strings_Join
      simp only
      by_cases h0 : (l.map itoaB).length = 0
      · rw [if_pos h0]
        have : l = [] := by simpa using h0
        subst this
        rfl
      · rw [if_neg h0, if_pos (by simp; omega), join_map, if_pos (by rw [bb_size]; omega)]
    rw [if_pos (by omega), this, Option.bind_some, if_pos (by rw [bb_size, ByteArray.size_append]; omega)]
  unfold F_spec_MapText F_impl_MapText
  simp only [Bool.cond_eq_ite]
  cases fx with
  | true =>
    rw [if_pos rfl, if_pos rfl, if_pos (by omega), if_pos (by rw [ByteArray.size_append]; omega), if_pos (by omega), spec_loop _ nm true l hl hr _ (by simp only [ByteArray.size_append]; omega), impl_loop _ _ l hl hr]
    exact ⟨_, rfl, hj _ (by rw [ByteArray.size_append]; omega)⟩
  | false =>
    simp only [Bool.false_eq_true, if_false]
    rw [if_pos (by omega), spec_loop _ nm false l hl hr _ (by simp only [ByteArray.size_append]; omega), impl_loop _ _ l hl hr]
    exact ⟨_, rfl, hj nm (by omega)⟩
end Go.Proofs.YtkjpediopepbkaaDoor.Pl

