/- Base, Loops, Rng, Names, Ops, Crc, ReadW, Read, Four, Draw, Crc1, Draw2, Put4. No condition. -/
import Derived.Test.YtmanmgafjbnakaaDE0
import Derived.Laws.BitsLemmas
/- Plain words: loops, numbers, bytes, texts, the checksum. No condition. -/
namespace Go.Proofs.Ytmanmgafjbnakaa.Pl
open Go.Proofs.Ytmanmgafjbnakaa.R Go.Proofs.Ytmanmgafjbnakaa.XE
set_option linter.unusedVariables false
set_option linter.unusedSimpArgs false

/-! ### Loops -/
/-- A loop's value by its measure. -/
theorem loop_lt {T R : Type} {step : (T → Option R) → T → Option R} (μ : T → Nat) (inv : T → Prop) (G : T → Option R)
    (h : ∀ again t, inv t → (∀ t', inv t' → μ t' < μ t → again t' = G t') → step again t = G t) : ∀ (n : Nat) (t : T), inv t → μ t < n → iter step n t = G t := by
  intro n
  induction n with
  | zero => intro t _ hn; omega
  | succ n ih =>
    intro t ht hn
    rw [iter]
    exact h _ t ht fun t' ht' hlt => ih t' ht' (by omega)
theorem loop_fuel {T R : Type} {step : (T → Option R) → T → Option R} (μ : T → Nat) (inv : T → Prop) (G : T → Option R)
    (h : ∀ again t, inv t → (∀ t', inv t' → μ t' < μ t → again t' = G t') → step again t = G t) (t : T) (ht : inv t) (hn : μ t < 18446744073709551616) : iter step FUEL t = G t :=
  loop_lt μ inv G h FUEL t ht (by rw [FUEL_eq]; exact hn)

/-! ### Numbers -/
theorem w64 {n : Int} (h0 : -9223372036854775808 ≤ n) (h1 : n ≤ 9223372036854775807) : Go.IntKind.wrap .i64 n = n := by
  rw [IntKind.wrap_i64]
  omega
def inR (x a b : Int) : Bool := decide (a ≤ x) && decide (x ≤ b)
theorem inR_iff {x a b : Int} : inR x a b = true ↔ a ≤ x ∧ x ≤ b := by simp [inR]
theorem wrap_small (n : Nat) (h : n < 9223372036854775808) : IntKind.i64.wrap (n : Int) = n := by
  rw [IntKind.wrap_i64]
  omega
theorem ofInt_toNat (x : Int) : ((BitVec.ofInt 64 x).toNat : Int) = x % 18446744073709551616 := by
  rw [BitVec.toNat_ofInt]
  omega
theorem and_mask (x : Int) (m : Nat) (j : Nat) (hj : j < 63) (hm : m = 2 ^ j - 1) : bits .and .i64 x m = x % (2 ^ j : Nat) := by
  have hd : (2 ^ j : Nat) ∣ 18446744073709551616 := by
    have : (18446744073709551616 : Nat) = 2 ^ j * 2 ^ (64 - j) := by rw [← Nat.pow_add, show j + (64 - j) = 64 by omega]
    rw [this]
    exact Nat.dvd_mul_right _ _
  have hlt : m < 18446744073709551616 := by
    have : 2 ^ j ≤ 2 ^ 64 := Nat.pow_le_pow_right (by omega) (by omega)
    have h1 : 0 < 2 ^ j := Nat.two_pow_pos j
    omega
  have hj63 : 2 ^ j < 9223372036854775808 := by
    have : 2 ^ j ≤ 2 ^ 62 := Nat.pow_le_pow_right (by omega) (by omega)
    omega
  show IntKind.i64.wrap ((BitVec.ofInt 64 x &&& BitVec.ofInt 64 (m : Int)).toNat : Int) = _
  rw [BitVec.toNat_and, BitVec.ofInt_natCast, BitVec.toNat_ofNat, Nat.mod_eq_of_lt hlt, hm, Nat.and_two_pow_sub_one_eq_mod]
  have h2 := Nat.mod_lt (BitVec.ofInt 64 x).toNat (Nat.two_pow_pos j)
  rw [wrap_small _ (by omega), Int.natCast_emod, ofInt_toNat]
  exact Int.emod_emod_of_dvd _ (Int.ofNat_dvd.2 hd)
theorem and255 (x : Int) : bits .and .i64 x 255 = x % 256 := and_mask x 255 8 (by omega) (by decide)
theorem and1 (x : Int) : bits .and .i64 x 1 = x % 2 := and_mask x 1 1 (by omega) (by decide)
theorem xor_nat (a b : Nat) (ha : a < 9223372036854775808) (hb : b < 9223372036854775808) : bits .xor .i64 (a : Int) (b : Int) = ((a ^^^ b : Nat) : Int) := by
  show IntKind.i64.wrap ((BitVec.ofInt 64 (a : Int) ^^^ BitVec.ofInt 64 (b : Int)).toNat : Int) = _
  rw [BitVec.toNat_xor, BitVec.ofInt_natCast, BitVec.ofInt_natCast, BitVec.toNat_ofNat, BitVec.toNat_ofNat, Nat.mod_eq_of_lt (by omega), Nat.mod_eq_of_lt (by omega)]
  exact wrap_small _ (Nat.xor_lt_two_pow (n := 63) ha hb)
theorem or_nat (a b : Nat) (ha : a < 9223372036854775808) (hb : b < 9223372036854775808) : bits .or .i64 (a : Int) (b : Int) = ((a ||| b : Nat) : Int) := by
  show IntKind.i64.wrap ((BitVec.ofInt 64 (a : Int) ||| BitVec.ofInt 64 (b : Int)).toNat : Int) = _
  rw [BitVec.toNat_or, BitVec.ofInt_natCast, BitVec.ofInt_natCast, BitVec.toNat_ofNat, BitVec.toNat_ofNat, Nat.mod_eq_of_lt (by omega), Nat.mod_eq_of_lt (by omega)]
  exact wrap_small _ (Nat.or_lt_two_pow (n := 63) ha hb)
/-- High bits beside low bits. -/
theorem or_join (j : Nat) (hj : j ≤ 62) (a b : Int) (h0 : 0 ≤ a) (h1 : a * 2 ^ j < 9223372036854775808) (hb0 : 0 ≤ b) (hb1 : b < 2 ^ j) : bits .or .i64 (a * 2 ^ j) b = a * 2 ^ j + b := by
  obtain ⟨a, rfl⟩ := Int.eq_ofNat_of_zero_le h0
  obtain ⟨b, rfl⟩ := Int.eq_ofNat_of_zero_le hb0
  have e2 : ((2 : Int) ^ j) = ((2 ^ j : Nat) : Int) := by rw [Int.natCast_pow]; rfl
  have hb1' : b < 2 ^ j := by
    rw [e2] at hb1
    exact Int.ofNat_lt.1 hb1
  have e : (a : Int) * 2 ^ j = ((a * 2 ^ j : Nat) : Int) := by rw [e2, Int.natCast_mul]
  rw [e] at h1 ⊢
  have ha : a * 2 ^ j < 9223372036854775808 := Int.ofNat_lt.1 h1
  have hor : a * 2 ^ j ||| b = a * 2 ^ j + b := by
    rw [← Nat.shiftLeft_eq, Nat.shiftLeft_add_eq_or_of_lt hb1']
  have h62 : 2 ^ j ≤ 2 ^ 62 := Nat.pow_le_pow_right (by omega) hj
  have hbl : b < 9223372036854775808 := by omega
  rw [or_nat _ _ ha hbl, hor, Int.natCast_add]
theorem xor_range (x y : Int) (hx0 : 0 ≤ x) (hx1 : x < 4294967296) (hy0 : 0 ≤ y) (hy1 : y < 4294967296) : 0 ≤ bits .xor .i64 x y ∧ bits .xor .i64 x y < 4294967296 := by
  obtain ⟨a, rfl⟩ := Int.eq_ofNat_of_zero_le hx0
  obtain ⟨b, rfl⟩ := Int.eq_ofNat_of_zero_le hy0
  rw [xor_nat a b (by omega) (by omega)]
  have := Nat.xor_lt_two_pow (n := 32) (x := a) (y := b) (by omega) (by omega)
  omega

/-! ### Bytes -/
def isBytes (l : List Int) : Prop := ∀ x ∈ l, 0 ≤ x ∧ x < 256
def by_ (l : List Int) (i : Int) : Int := l.getD i.toNat 0
theorem by_range {l : List Int} (h : isBytes l) (i : Int) : 0 ≤ by_ l i ∧ by_ l i < 256 := by
  unfold by_
  rw [List.getD_eq_getElem?_getD]
  cases hl : l[i.toNat]? with
  | none => simp
  | some x => exact h x (List.mem_of_getElem? hl)
theorem isBytes_take {l : List Int} (h : isBytes l) (n : Nat) : isBytes (l.take n) := fun x hx => h x (List.mem_of_mem_take hx)
theorem isBytes_drop {l : List Int} (h : isBytes l) (n : Nat) : isBytes (l.drop n) := fun x hx => h x (List.mem_of_mem_drop hx)
theorem by_take {l : List Int} {n : Nat} {i : Int} (hi : i.toNat < n) : by_ (l.take n) i = by_ l i := by
  unfold by_
  rw [List.getD_eq_getElem?_getD, List.getD_eq_getElem?_getD, List.getElem?_take, if_pos hi]

/-! ### The checksum -/
def crcBit (x : Int) : Int := if x % 2 = 1 then bits .xor .i64 (x / 2) 2197175160 else x / 2
def crcBits : Nat → Int → Int
  | 0, x => x
  | n + 1, x => crcBits n (crcBit x)
def crcStep (x b : Int) : Int := crcBits 8 (bits .xor .i64 x b)
def crc (l : List Int) : Int := bits .xor .i64 (l.foldl crcStep 4294967295) 4294967295
theorem crcBit_range (x : Int) (h0 : 0 ≤ x) (h1 : x < 4294967296) : 0 ≤ crcBit x ∧ crcBit x < 4294967296 := by
  unfold crcBit
  split
  · exact xor_range _ _ (by omega) (by omega) (by omega) (by omega)
  · omega
theorem crcBits_range : ∀ (n : Nat) (x : Int), 0 ≤ x → x < 4294967296 → 0 ≤ crcBits n x ∧ crcBits n x < 4294967296
  | 0, _, h0, h1 => ⟨h0, h1⟩
  | n + 1, x, h0, h1 => crcBits_range n _ (crcBit_range x h0 h1).1 (crcBit_range x h0 h1).2
theorem crcStep_range (x b : Int) (h0 : 0 ≤ x) (h1 : x < 4294967296) (hb0 : 0 ≤ b) (hb1 : b < 256) : 0 ≤ crcStep x b ∧ crcStep x b < 4294967296 := by
  have := xor_range x b h0 h1 hb0 (by omega)
  exact crcBits_range 8 _ this.1 this.2
end Go.Proofs.Ytmanmgafjbnakaa.Pl

/- Loops over lists: copies, comparisons, sizes. No condition. -/
namespace Go.Proofs.Ytmanmgafjbnakaa.Pl
open Go.Proofs.Ytmanmgafjbnakaa.R Go.Proofs.Ytmanmgafjbnakaa.XE
set_option linter.unusedVariables false
set_option linter.unusedSimpArgs false

/-- What holds of every round's answer holds of the loop's. -/
theorem loop_prop {T R : Type} {step : (T → Option R) → T → Option R} (μ : T → Nat) (inv : T → Prop) (Q : T → Option R → Prop)
    (h : ∀ again t, inv t → (∀ t', inv t' → μ t' < μ t → Q t' (again t')) → Q t (step again t)) (t : T) (ht : inv t) (hn : μ t < 18446744073709551616) : Q t (iter step FUEL t) := by
  have key : ∀ (n : Nat) (t : T), inv t → μ t < n → Q t (iter step n t) := by
    intro n
    induction n with
    | zero => intro t _ hn; omega
    | succ n ih =>
      intro t ht hn
      rw [iter]
      exact h _ t ht fun t' ht' hlt => ih t' ht' (by omega)
  exact key FUEL t ht (by rw [FUEL_eq]; exact hn)
theorem getD_get {A : Type} (da : A) (l : List A) (i : Int) (h0 : 0 ≤ i) (h : i < l.length) : l.getD i.toNat da = l[i.toNat]'(by omega) := by
  rw [List.getD_eq_getElem?_getD, List.getElem?_eq_getElem (by omega)]
  rfl
theorem getD_mem {A : Type} (da : A) (l : List A) (i : Int) (h0 : 0 ≤ i) (h : i < l.length) : l.getD i.toNat da ∈ l := by
  rw [getD_get da l i h0 h]
  exact List.getElem_mem _
theorem drop_getD {A : Type} (da : A) (l : List A) (i : Int) (h0 : 0 ≤ i) (h : i < l.length) : l.drop i.toNat = l.getD i.toNat da :: l.drop (i + 1).toNat := by
  rw [getD_get da l i h0 h, show (i + 1).toNat = i.toNat + 1 by omega, ← List.drop_eq_getElem_cons]
theorem copy_loop {A R : Type} (da : A) {step : (List A × Int × List A → Option R) → List A × Int × List A → Option R} (k : List A → Option R) (l : List A) (hl : l.length ≤ 1099511627776)
    (h : ∀ again i o, 0 ≤ i → i < (l.length : Int) → o.length = l.length → step again (l, i, o) = again (l, i + 1, o.set i.toNat (l.getD i.toNat da)))
    (hd : ∀ again i o, ¬ i < (l.length : Int) → step again (l, i, o) = k o) (o : List A) (ho : o.length = l.length) : iter step FUEL (l, 0, o) = k l := by
  rw [loop_fuel (fun t : List A × Int × List A => t.1.length - t.2.1.toNat) (fun t => t.1 = l ∧ 0 ≤ t.2.1 ∧ t.2.1 ≤ l.length ∧ t.2.2.length = l.length) (fun t => k (t.2.2.take t.2.1.toNat ++ l.drop t.2.1.toNat)) ?_ (l, 0, o) ⟨rfl, by simp, by simp, ho⟩ (by simp; omega)]
  · simp
  · rintro again ⟨l', i, o⟩ ⟨rfl, h0, h1, hlen⟩ hag
    simp only at h0 h1 hlen hl ⊢
    by_cases hi : i < (l'.length : Int)
    · rw [h again i o h0 hi hlen, hag (l', i + 1, _) ⟨rfl, by simp only; omega, by simp only; omega, by simpa using hlen⟩ (by simp only; omega), drop_getD da l' i h0 hi]
      have e1 : (i + 1).toNat = i.toNat + 1 := by omega
      have hn : i.toNat < o.length := by omega
      simp only [e1]
      rw [List.take_succ_eq_append_getElem (by simpa using hn), List.take_set_of_le (Nat.le_refl _)]
      simp
    · have : i.toNat = l'.length := by omega
      rw [hd again i o hi, List.drop_of_length_le (by omega), List.take_of_length_le (by omega)]
      simp
theorem eq_loop {A R : Type} {step : (List A × List A × Int → Option R) → List A × List A × Int → Option R} (k : Unit → Option R) (l : List A) (hl : l.length ≤ 1099511627776)
    (h : ∀ again i, 0 ≤ i → i < (l.length : Int) → step again (l, l, i) = again (l, l, i + 1))
    (hd : ∀ again i, ¬ i < (l.length : Int) → step again (l, l, i) = k ()) : iter step FUEL (l, l, 0) = k () := by
  rw [loop_fuel (fun t : List A × List A × Int => t.1.length - t.2.2.toNat) (fun t => t.1 = l ∧ t.2.1 = l ∧ 0 ≤ t.2.2 ∧ t.2.2 ≤ l.length) (fun _ => k ()) ?_ (l, l, 0) ⟨rfl, rfl, by simp, by simp⟩ (by simp; omega)]
  rintro again ⟨a, b, i⟩ ⟨h1, h2, h0, h3⟩ hag
  simp only at h1 h2 h0 h3 ⊢
  subst h1 h2
  by_cases hi : i < (b.length : Int)
  · rw [h again i h0 hi]
    exact hag (b, b, i + 1) ⟨rfl, rfl, by simp only; omega, by simp only; omega⟩ (by simp only; omega)
  · exact hd again i hi
def sumW {A : Type} (w : A → Int) (l : List A) : Int := l.foldr (fun a s => w a + s) 0
theorem sumW_cons {A : Type} (w : A → Int) (a : A) (l : List A) : sumW w (a :: l) = w a + sumW w l := rfl
theorem sumW_mem {A : Type} {w : A → Int} (hw : ∀ a, 0 ≤ w a) : ∀ {l : List A} {a : A}, a ∈ l → w a ≤ sumW w l ∧ 0 ≤ sumW w l
  | b :: l, a, h => by
    have hs : 0 ≤ sumW w l := by
      clear h
      induction l with
      | nil => exact Int.le_refl _
      | cons c l ih => rw [sumW_cons]; have := hw c; omega
    rw [sumW_cons]
    have := hw b
    rcases List.mem_cons.1 h with rfl | h
    · omega
    · have := (sumW_mem hw h).1
      omega
theorem sumW_nonneg {A : Type} {w : A → Int} (hw : ∀ a, 0 ≤ w a) (l : List A) : 0 ≤ sumW w l := by
  induction l with
  | nil => exact Int.le_refl _
  | cons c l ih => rw [sumW_cons]; have := hw c; omega
/-- What a size function answers: it is over, or the weight is taken off. -/
def szOk (n w : Int) (o : Option Int) : Prop := ∃ r, o = some r ∧ (r < 0 ∨ (0 ≤ r ∧ r = n - w))
theorem sz_loop {A R : Type} (da : A) (w : A → Int) (f : A → Int → Option Int) {step : (List A × Int × Int → Option R) → List A × Int × Int → Option R} (k0 : Int × Int → Option R) (k1 : Int → Option R) (l : List A) (hl : l.length ≤ 1099511627776)
    (hw : ∀ a, 0 ≤ w a) (hf : ∀ a ∈ l, ∀ n, 0 ≤ n → n ≤ 1048576 → szOk n (w a) (f a n))
    (h : ∀ again n i r, 0 ≤ i → i < (l.length : Int) → f (l.getD i.toNat da) n = some r → step again (l, n, i) = if r < 0 then k0 (r, -1) else again (l, r, i + 1))
    (hd : ∀ again n i, ¬ i < (l.length : Int) → step again (l, n, i) = k1 n) (n : Int) (hn0 : 0 ≤ n) (hn1 : n ≤ 1048576) :
    (∃ r, iter step FUEL (l, n, 0) = k0 (r, -1)) ∨ (∃ r, 0 ≤ r ∧ r = n - sumW w l ∧ iter step FUEL (l, n, 0) = k1 r) := by
  have key := loop_prop (step := step) (fun t : List A × Int × Int => t.1.length - t.2.2.toNat) (fun t => t.1 = l ∧ 0 ≤ t.2.1 ∧ t.2.1 ≤ 1048576 ∧ 0 ≤ t.2.2 ∧ t.2.2 ≤ l.length)
    (fun t res => (∃ r, res = k0 (r, -1)) ∨ (∃ r, 0 ≤ r ∧ r = t.2.1 - sumW w (l.drop t.2.2.toNat) ∧ res = k1 r)) ?_ (l, n, 0) ⟨rfl, hn0, hn1, by simp, by simp⟩ (by simp; omega)
  · simpa using key
  · rintro again ⟨l', n, i⟩ ⟨rfl, a0, a1, h0, h1⟩ hag
    simp only at a0 a1 h0 h1 hl ⊢
    by_cases hi : i < (l'.length : Int)
    · obtain ⟨r, hr, hc⟩ := hf _ (getD_mem da l' i h0 hi) n a0 a1
      have := hw (l'.getD i.toNat da)
      rw [h again n i r h0 hi hr, drop_getD da l' i h0 hi, sumW_cons]
      rcases hc with hc | ⟨hc0, hc1⟩
      · rw [if_pos hc]
        exact .inl ⟨r, rfl⟩
      · rw [if_neg (by omega)]
        rcases hag (l', r, i + 1) ⟨rfl, hc0, by simp only; omega, by simp only; omega, by simp only; omega⟩ (by simp only; omega) with hh | ⟨r', q0, q1, q2⟩
        · exact .inl hh
        · exact .inr ⟨r', q0, by simp only at q1; omega, q2⟩
    · rw [hd again n i hi, List.drop_of_length_le (by omega)]
      exact .inr ⟨n, a0, by simp [sumW], rfl⟩
end Go.Proofs.Ytmanmgafjbnakaa.Pl

/- Ranges. No condition. -/
namespace Go.Proofs.Ytmanmgafjbnakaa.Pl
open Go.Proofs.Ytmanmgafjbnakaa.R Go.Proofs.Ytmanmgafjbnakaa.XE
set_option linter.unusedVariables false
set_option linter.unusedSimpArgs false

theorem l1In_eq (x a b : Int) : F_spec_l1In (x, a, b) = some (inR x a b) := by
  unfold F_spec_l1In inR
  by_cases h : x ≥ a <;> simp [h]
theorem within_eq (x a b : Int) : F_impl_within (x, a, b) = some (inR x a b) := by
  unfold F_impl_within inR
  by_cases h : x ≥ a <;> simp [h]
theorem bi (x y : Int) : ((x == y) = true) = (x = y) := by simp
end Go.Proofs.Ytmanmgafjbnakaa.Pl

/- Names: what they answer. No condition. -/
namespace Go.Proofs.Ytmanmgafjbnakaa.Pl
open Go.Proofs.Ytmanmgafjbnakaa.R Go.Proofs.Ytmanmgafjbnakaa.XE
set_option linter.unusedVariables false
set_option linter.unusedSimpArgs false

def isW (n : Int) : Bool := inR n 0 65535
theorem l1Word_eq (x : Int) : F_spec_l1Word x = some (isW x) := by unfold F_spec_l1Word; rw [l1In_eq]; rfl
theorem isWord_eq (x : Int) : F_impl_isWord x = some (isW x) := by unfold F_impl_isWord; rw [within_eq]; rfl

/-! ### Names -/
def nameByte (c : Int) : Bool := inR c 97 122 || inR c 48 57
def nameAll (l : List UInt8) : Bool := l.all fun c => nameByte (c.toNat : Int)
def nameOk (s : ByteArray) : Bool := nameAll s.data.toList && inR s.size 1 6
theorem w64_byte (c : UInt8) : Go.IntKind.wrap .i64 (c.toNat : Int) = c.toNat := by
  have := c.toNat_lt
  exact w64 (by omega) (by omega)
theorem get_byte (s : ByteArray) (i : Nat) (h : i < s.size) : ByteArray.get s i h = s.data.toList[i]'(by rw [Array.length_toList]; exact h) := by
  rw [Array.getElem_toList]
  rfl
theorem drop_byte (s : ByteArray) (i : Nat) (h : i < s.size) : s.data.toList.drop i = ByteArray.get s i h :: s.data.toList.drop (i + 1) := by
  rw [get_byte, ← List.drop_eq_getElem_cons]
theorem spec_NameOk_eq (s : ByteArray) (hs : s.size ≤ maxLen) : F_spec_NameOk s = some (nameOk s) := by
  have hm : (s.size : Int) ≤ 9223372036854775807 := by simp only [maxLen] at hs; omega
  unfold F_spec_NameOk L_spec_NameOk_2
  rw [loop_fuel (fun t : ByteArray × Int => t.1.size - t.2.toNat) (fun t => t.1 = s ∧ 0 ≤ t.2 ∧ t.2 ≤ s.size) (fun t => if nameAll (t.1.data.toList.drop t.2.toNat) then some (inR s.size 1 6) else some false) ?_ (s, 0) ⟨rfl, by simp, by simp⟩ (by simp only [maxLen] at hs; simp; omega)]
  · unfold nameOk
    cases h : nameAll s.data.toList <;> simp [h]
  · rintro again ⟨s', i⟩ ⟨rfl, h0, h1⟩ hag
    simp only at h0 h1 hs hm ⊢
    unfold S_spec_NameOk_2
    simp only [Bool.cond_eq_ite, decide_eq_true_eq]
    by_cases hi : i < (s'.size : Int)
    · have hn : i.toNat < s'.size := by omega
      rw [if_pos hi, if_pos h0, dif_pos hn]
      simp only [l1In_eq, Option.bind_some, if_pos h0, dif_pos hn, w64_byte]
      rw [drop_byte s' i.toNat hn]
      have hw : Go.IntKind.wrap .i64 (i + 1) = i + 1 := w64 (by omega) (by omega)
      have e1 : (i + 1).toNat = i.toNat + 1 := by omega
      have hag' := hag (s', i + 1) ⟨rfl, by simp only; omega, by simp only; omega⟩ (by simp only; omega)
      simp only [nameAll, List.all_cons, nameByte] at hag' ⊢
      rw [hw, hag', e1]
      obtain ⟨c, hc⟩ : ∃ c, ByteArray.get s' i.toNat hn = c := ⟨_, rfl⟩
      simp only [hc]
      cases inR (c.toNat : Int) 97 122 <;> cases inR (c.toNat : Int) 48 57 <;> simp
    · rw [if_neg hi, List.drop_of_length_le (by rw [Array.length_toList]; show s'.size ≤ _; omega)]
      simp [nameAll, l1In_eq]
theorem impl_NameOk_eq (s : ByteArray) (hs : s.size ≤ maxLen) : F_impl_NameOk s = some (nameOk s) := by
  have hm : (s.size : Int) ≤ 9223372036854775807 := by simp only [maxLen] at hs; omega
  unfold F_impl_NameOk L_impl_NameOk_2
  rw [loop_fuel (fun t : ByteArray × Int => t.1.size - t.2.toNat) (fun t => t.1 = s ∧ 0 ≤ t.2 ∧ t.2 ≤ s.size) (fun t => if nameAll (t.1.data.toList.drop t.2.toNat) then some (inR s.size 1 6) else some false) ?_ (s, 0) ⟨rfl, by simp, by simp⟩ (by simp only [maxLen] at hs; simp; omega)]
  · unfold nameOk
    cases h : nameAll s.data.toList <;> simp [h]
  · rintro again ⟨s', i⟩ ⟨rfl, h0, h1⟩ hag
    simp only at h0 h1 hs hm ⊢
    unfold S_impl_NameOk_2
    simp only [Bool.cond_eq_ite, decide_eq_true_eq]
    by_cases hi : i < (s'.size : Int)
    · have hn : i.toNat < s'.size := by omega
      rw [if_pos hi, if_pos h0, dif_pos hn]
      simp only [within_eq, Option.bind_some, if_pos h0, dif_pos hn, w64_byte]
      rw [drop_byte s' i.toNat hn]
      have hw : Go.IntKind.wrap .i64 (i + 1) = i + 1 := w64 (by omega) (by omega)
      have e1 : (i + 1).toNat = i.toNat + 1 := by omega
      have hag' := hag (s', i + 1) ⟨rfl, by simp only; omega, by simp only; omega⟩ (by simp only; omega)
      simp only [nameAll, List.all_cons, nameByte] at hag' ⊢
      rw [hw, hag', e1]
      obtain ⟨c, hc⟩ : ∃ c, ByteArray.get s' i.toNat hn = c := ⟨_, rfl⟩
      simp only [hc]
      cases inR (c.toNat : Int) 97 122 <;> cases inR (c.toNat : Int) 48 57 <;> simp
    · rw [if_neg hi, List.drop_of_length_le (by rw [Array.length_toList]; show s'.size ≤ _; omega)]
      simp [nameAll, within_eq]

end Go.Proofs.Ytmanmgafjbnakaa.Pl

/- Operations: what they answer. No condition. -/
namespace Go.Proofs.Ytmanmgafjbnakaa.Pl
open Go.Proofs.Ytmanmgafjbnakaa.R Go.Proofs.Ytmanmgafjbnakaa.XE
set_option linter.unusedVariables false
set_option linter.unusedSimpArgs false

/-! ### Operations -/
def opZero (kind a b : Int) : Bool :=
  if kind = 2 then decide (a = 0) && inR b 0 1 else if kind = 3 ∨ kind = 7 then decide (a = 0) && decide (b = 0) else if kind = 4 then true else decide (b = 0)
def noText (s : ByteArray) : Bool := s.toList == ([] : List UInt8)
def opOk (kind : Int) (name tt : ByteArray) (a b : Int) : Bool :=
  inR kind 1 9 && (if kind ≥ 7 then noText name else nameOk name) && (if kind = 2 then nameOk tt else noText tt) && isW a && isW b && opZero kind a b
def entOk (seq kind : Int) (name tt : ByteArray) (a b : Int) : Bool := inR seq 1 60000 && opOk kind name tt a b
theorem spec_l15Zero_eq (kind : Int) (name tt : ByteArray) (a b : Int) : F_spec_l15Zero (kind, name, tt, a, b) = some (opZero kind a b) := by
  unfold F_spec_l15Zero opZero
  simp only [Bool.cond_eq_ite, l1In_eq, Option.bind_some, beq_iff_eq]
  by_cases h2 : kind = 2 <;> by_cases h3 : kind = 3 <;> by_cases h7 : kind = 7 <;> by_cases h4 : kind = 4 <;> by_cases ha : a = 0 <;> by_cases hb : b = 0 <;> simp_all
theorem toList_empty : (ByteArray.toList { data := #[] }) = [] := by
  unfold ByteArray.toList ByteArray.toList.loop
  rfl
theorem spec_OpOk_eq (kind : Int) (name tt : ByteArray) (a b : Int) (hn : name.size ≤ maxLen) (ht : tt.size ≤ maxLen) : F_spec_OpOk (kind, name, tt, a, b) = some (opOk kind name tt a b) := by
  unfold F_spec_OpOk opOk noText
  simp only [Bool.cond_eq_ite, spec_NameOk_eq _ hn, spec_NameOk_eq _ ht, l1In_eq, l1Word_eq, spec_l15Zero_eq, Option.bind_some, bi, toList_empty, decide_eq_true_eq]
  generalize (name.toList == ([] : List UInt8)) = n1
  generalize (tt.toList == ([] : List UInt8)) = n2
  generalize inR kind 1 9 = n3
  generalize opZero kind a b = n4
  by_cases h7 : kind ≥ 7 <;> by_cases h2 : kind = 2 <;> simp only [h7, h2, if_true, if_false, Option.bind_some] <;> cases n1 <;> cases n2 <;> cases n3 <;> cases n4 <;> cases nameOk name <;> cases nameOk tt <;> cases isW a <;> cases isW b <;> rfl
theorem impl_OpOk_eq (kind : Int) (name tt : ByteArray) (a b : Int) (hn : name.size ≤ maxLen) (ht : tt.size ≤ maxLen) : F_impl_OpOk (kind, name, tt, a, b) = some (opOk kind name tt a b) := by
  unfold F_impl_OpOk
  simp only [Bool.cond_eq_ite, impl_NameOk_eq _ hn, impl_NameOk_eq _ ht, within_eq, isWord_eq, Option.bind_some, bi, toList_empty, decide_eq_true_eq]
  unfold opOk noText
  generalize (name.toList == ([] : List UInt8)) = n1
  generalize (tt.toList == ([] : List UInt8)) = n2
  cases hwb : isW b with
  | false => cases inR kind 1 9 <;> cases isW a <;> simp
  | true =>
    obtain ⟨hb0, hb1⟩ := inR_iff.1 hwb
    have hb : inR b 0 1 = (decide (b ≤ 1)) := by simp [inR, hb0]
    unfold opZero
    rw [hb]
    generalize nameOk name = n3
    generalize nameOk tt = n4
    generalize isW a = n5
    generalize inR kind 1 9 = n6
    have ea : (a == 0) = decide (a = 0) := rfl
    have eb : (b == 0) = decide (b = 0) := rfl
    by_cases h7 : kind ≥ 7
    · have h6 : ¬ kind ≤ 6 := by omega
      have h2 : ¬ kind = 2 := by omega
      have h3 : ¬ kind = 3 := by omega
      have h4 : ¬ kind = 4 := by omega
      simp only [if_neg h6, if_pos h7, if_neg h2, if_neg h3, if_neg h4, h3, ea, eb, false_or, decide_eq_true_eq]
      by_cases h77 : kind = 7
      · simp only [if_pos h77]
        by_cases ha : a = 0 <;> by_cases hb' : b = 0 <;> simp only [ha, hb', if_true, if_false, decide_true, decide_false] <;> cases n1 <;> cases n2 <;> cases n5 <;> cases n6 <;> first | rfl | simp
      · simp only [if_neg h77]
        by_cases hb' : b = 0 <;> simp only [hb', if_true, if_false, decide_true, decide_false] <;> cases n1 <;> cases n2 <;> cases n5 <;> cases n6 <;> first | rfl | simp
    · have h6 : kind ≤ 6 := by omega
      have h77 : ¬ kind = 7 := by omega
      by_cases h2 : kind = 2 <;> by_cases h3 : kind = 3 <;> by_cases h4 : kind = 4 <;> simp only [h7, h6, h2, h3, h4, h77, ea, eb, if_true, if_false, or_true, or_false, decide_eq_true_eq] <;> first | (exfalso; omega) | skip
      all_goals by_cases ha : a = 0 <;> by_cases hb' : b = 0 <;> simp only [ha, hb', if_true, if_false, decide_true, decide_false] <;> cases n1 <;> cases n2 <;> cases n3 <;> cases n4 <;> cases n5 <;> cases n6 <;> first | rfl | simp
theorem spec_EntOk_eq (q kind : Int) (name tt : ByteArray) (a b : Int) (hn : name.size ≤ maxLen) (ht : tt.size ≤ maxLen) : F_spec_EntOk (q, kind, name, tt, a, b) = some (entOk q kind name tt a b) := by
  unfold F_spec_EntOk entOk
  simp only [Bool.cond_eq_ite, l1In_eq, spec_OpOk_eq _ _ _ _ _ hn ht, Option.bind_some]
  cases inR q 1 60000 <;> simp
theorem impl_EntOk_eq (q kind : Int) (name tt : ByteArray) (a b : Int) (hn : name.size ≤ maxLen) (ht : tt.size ≤ maxLen) : F_impl_EntOk (q, kind, name, tt, a, b) = some (entOk q kind name tt a b) := by
  unfold F_impl_EntOk entOk
  simp only [Bool.cond_eq_ite, within_eq, impl_OpOk_eq _ _ _ _ _ hn ht, Option.bind_some]
  cases inR q 1 60000 <;> simp
end Go.Proofs.Ytmanmgafjbnakaa.Pl

/- The checksum, copies and comparisons of bytes. No condition. -/
namespace Go.Proofs.Ytmanmgafjbnakaa.Pl
open Go.Proofs.Ytmanmgafjbnakaa.R Go.Proofs.Ytmanmgafjbnakaa.XE
set_option linter.unusedVariables false
set_option linter.unusedSimpArgs false

theorem rd_by (l : List Int) (i : Int) : rd_u8 l i = by_ l i := rfl
theorem drop_by (l : List Int) (i : Int) (h0 : 0 ≤ i) (h : i < l.length) : l.drop i.toNat = by_ l i :: l.drop (i.toNat + 1) := by
  have hn : i.toNat < l.length := by omega
  rw [List.drop_eq_getElem_cons hn]
  unfold by_
  rw [List.getD_eq_getElem?_getD, List.getElem?_eq_getElem hn]
  rfl
theorem fdiv2 (x : Int) : Int.fdiv x (2 ^ (min (Int.toNat (1 : Int)) (Go.IntKind.bits .i64))) = x / 2 := by
  show Int.fdiv x 2 = x / 2
  rw [Int.fdiv_eq_ediv_of_nonneg _ (by omega)]
theorem spec_crc_inner {R : Type} (l : List Int) (i : Int) (k : List Int × Int × Int → Option R) : ∀ x : Int, L_spec_Crc_7 k (l, x, i, 0) = k (l, crcBits 8 x, i) := by
  intro x
  unfold L_spec_Crc_7
  have key := loop_fuel (step := S_spec_Crc_7 k) (fun t : List Int × Int × Int × Int => 8 - t.2.2.2.toNat) (fun t => t.1 = l ∧ t.2.2.1 = i ∧ 0 ≤ t.2.2.2 ∧ t.2.2.2 ≤ 8) (fun t => k (l, crcBits (8 - t.2.2.2.toNat) t.2.1, i)) ?_ (l, x, i, 0) ⟨rfl, rfl, by simp, by simp⟩ (by simp)
  · simpa using key
  · rintro again ⟨l', x, i', j⟩ ⟨rfl, rfl, h0, h1⟩ hag
    simp only at h0 h1 ⊢
    unfold S_spec_Crc_7
    simp only [Bool.cond_eq_ite, decide_eq_true_eq, bi, and1, fdiv2]
    by_cases hj : j < 8
    · have hw : Go.IntKind.wrap .i64 (j + 1) = j + 1 := w64 (by omega) (by omega)
      obtain ⟨d, hd⟩ : ∃ d, 8 - j.toNat = d + 1 := ⟨7 - j.toNat, by omega⟩
      have hd' : 8 - (j + 1).toNat = d := by omega
      rw [if_pos hj, hw, hd, crcBits]
      unfold crcBit
      by_cases hx : x % 2 = 1
      · rw [if_pos hx, if_pos hx]
        have := hag (l', bits .xor .i64 (x / 2) 2197175160, i', j + 1) ⟨rfl, rfl, by simp only; omega, by simp only; omega⟩ (by simp only; omega)
        rw [this]
        simp only [hd']
      · rw [if_neg hx, if_neg hx]
        have := hag (l', x / 2, i', j + 1) ⟨rfl, rfl, by simp only; omega, by simp only; omega⟩ (by simp only; omega)
        rw [this]
        simp only [hd']
    · have : j = 8 := by omega
      subst this
      simp [crcBits]
theorem w64_by {l : List Int} (h : isBytes l) (i : Int) : Go.IntKind.wrap .i64 (by_ l i) = by_ l i := by
  have := by_range h i
  exact w64 (by omega) (by omega)
theorem spec_Crc_eq (l : List Int) (hb : isBytes l) (hl : l.length ≤ 1099511627776) : F_spec_Crc l = some (crc l) := by
  unfold F_spec_Crc L_spec_Crc_3
  rw [loop_fuel (fun t : List Int × Int × Int => t.1.length - t.2.2.toNat) (fun t => t.1 = l ∧ 0 ≤ t.2.2 ∧ t.2.2 ≤ l.length) (fun t => some (bits .xor .i64 ((l.drop t.2.2.toNat).foldl crcStep t.2.1) 4294967295)) ?_ (l, 4294967295, 0) ⟨rfl, by simp, by simp⟩ (by simp; omega)]
  · rfl
  · rintro again ⟨l', x, i⟩ ⟨rfl, h0, h1⟩ hag
    simp only at h0 h1 hl hb ⊢
    unfold S_spec_Crc_3
    simp only [Bool.cond_eq_ite, decide_eq_true_eq, rd_by, w64_by hb]
    by_cases hi : i < (l'.length : Int)
    · have hw : Go.IntKind.wrap .i64 (i + 1) = i + 1 := w64 (by omega) (by omega)
      rw [if_pos hi, if_pos h0, if_pos hi, spec_crc_inner]
      simp only [hw]
      rw [hag (l', crcBits 8 (bits .xor .i64 x (by_ l' i)), i + 1) ⟨rfl, by simp only; omega, by simp only; omega⟩ (by simp only; omega), drop_by l' i h0 hi]
      have e1 : (i + 1).toNat = i.toNat + 1 := by omega
      simp only [e1, List.foldl_cons, crcStep]
    · rw [if_neg hi, List.drop_of_length_le (by omega)]
      rfl
theorem tdiv2 (x : Int) (h : 0 ≤ x) : Int.tdiv x 2 = x / 2 := Int.tdiv_eq_ediv_of_nonneg h
theorem tmod2 (x : Int) (h : 0 ≤ x) : Int.tmod x 2 = x % 2 := Int.tmod_eq_emod_of_nonneg h
theorem impl_crc_inner {R : Type} (l : List Int) (n i : Int) (k : Int × List Int × Int × Int → Option R) : ∀ x : Int, 0 ≤ x → x < 4294967296 → L_impl_Crc_7 k (x, l, n, i, 0) = k (crcBits 8 x, l, n, i) := by
  intro x hx0 hx1
  unfold L_impl_Crc_7
  have key := loop_fuel (step := S_impl_Crc_7 k) (fun t : Int × List Int × Int × Int × Int => 8 - t.2.2.2.2.toNat) (fun t => t.2.1 = l ∧ t.2.2.1 = n ∧ t.2.2.2.1 = i ∧ 0 ≤ t.2.2.2.2 ∧ t.2.2.2.2 ≤ 8 ∧ 0 ≤ t.1 ∧ t.1 < 4294967296) (fun t => k (crcBits (8 - t.2.2.2.2.toNat) t.1, l, n, i)) ?_ (x, l, n, i, 0) ⟨rfl, rfl, rfl, by simp, by simp, hx0, hx1⟩ (by simp)
  · simpa using key
  · rintro again ⟨x, l', n', i', j⟩ ⟨rfl, rfl, rfl, h0, h1, hx0, hx1⟩ hag
    simp only at h0 h1 hx0 hx1 ⊢
    unfold S_impl_Crc_7
    simp only [Bool.cond_eq_ite, decide_eq_true_eq, bi, tmod2 x hx0, tdiv2 x hx0, w64 (n := x / 2) (by omega) (by omega)]
    by_cases hj : j < 8
    · have hw : Go.IntKind.wrap .i64 (j + 1) = j + 1 := w64 (by omega) (by omega)
      obtain ⟨d, hd⟩ : ∃ d, 8 - j.toNat = d + 1 := ⟨7 - j.toNat, by omega⟩
      have hd' : 8 - (j + 1).toNat = d := by omega
      have hr := crcBit_range x hx0 hx1
      rw [if_pos hj, hw, hd, crcBits]
      unfold crcBit at hr ⊢
      by_cases hx : x % 2 = 1
      · rw [if_pos hx] at hr ⊢
        rw [if_pos hx]
        have := hag (bits .xor .i64 (x / 2) 2197175160, l', n', i', j + 1) ⟨rfl, rfl, rfl, by simp only; omega, by simp only; omega, hr.1, hr.2⟩ (by simp only; omega)
        rw [this]
        simp only [hd']
      · rw [if_neg hx] at hr ⊢
        rw [if_neg hx]
        have := hag (x / 2, l', n', i', j + 1) ⟨rfl, rfl, rfl, by simp only; omega, by simp only; omega, hr.1, hr.2⟩ (by simp only; omega)
        rw [this]
        simp only [hd']
    · have : j = 8 := by omega
      subst this
      simp [crcBits]
theorem impl_Crc_eq (l : List Int) (hb : isBytes l) (hl : l.length ≤ 1099511627776) : F_impl_Crc l = some (crc l) := by
  unfold F_impl_Crc L_impl_Crc_3
  rw [loop_fuel (fun t : Int × List Int × Int × Int => t.2.1.length - t.2.2.2.toNat) (fun t => t.2.1 = l ∧ t.2.2.1 = l.length ∧ 0 ≤ t.2.2.2 ∧ t.2.2.2 ≤ l.length ∧ 0 ≤ t.1 ∧ t.1 < 4294967296) (fun t => some (bits .xor .i64 ((l.drop t.2.2.2.toNat).foldl crcStep t.1) 4294967295)) ?_ (4294967295, l, l.length, 0) ⟨rfl, rfl, by simp, by simp, by simp, by simp⟩ (by simp; omega)]
  · rfl
  · rintro again ⟨x, l', n, i⟩ ⟨rfl, hn, h0, h1, hx0, hx1⟩ hag
    simp only at hn h0 h1 hx0 hx1 hl hb ⊢
    subst hn
    unfold S_impl_Crc_3
    simp only [Bool.cond_eq_ite, decide_eq_true_eq, rd_by, w64_by hb]
    by_cases hi : i < (l'.length : Int)
    · have hw : Go.IntKind.wrap .i64 (i + 1) = i + 1 := w64 (by omega) (by omega)
      have hbr := by_range hb i
      have hxr := xor_range x (by_ l' i) hx0 hx1 hbr.1 (by omega)
      have hsr := crcStep_range x (by_ l' i) hx0 hx1 hbr.1 hbr.2
      rw [if_pos hi, if_pos h0, if_pos hi, impl_crc_inner _ _ _ _ _ hxr.1 hxr.2]
      simp only [hw]
      rw [hag (crcBits 8 (bits .xor .i64 x (by_ l' i)), l', l'.length, i + 1) ⟨rfl, rfl, by simp only; omega, by simp only; omega, hsr.1, hsr.2⟩ (by simp only; omega), drop_by l' i h0 hi]
      have e1 : (i + 1).toNat = i.toNat + 1 := by omega
      simp only [e1, List.foldl_cons, crcStep]
    · rw [if_neg hi, List.drop_of_length_le (by omega)]
      rfl

/-! ### Copies -/
theorem eqByteS_refl (l : List Int) (hl : l.length ≤ 1099511627776) : F_laws_eqByteS (l, l) = some true := by
  unfold F_laws_eqByteS L_laws_eqByteS_4
  simp only [bne_self_eq_false, cond_false]
  rw [loop_fuel (fun t : List Int × List Int × Int => t.1.length - t.2.2.toNat) (fun t => t.1 = l ∧ t.2.1 = l ∧ 0 ≤ t.2.2 ∧ t.2.2 ≤ l.length) (fun _ => some true) ?_ (l, l, 0) ⟨rfl, rfl, by simp, by simp⟩ (by simp; omega)]
  rintro again ⟨a, b, i⟩ ⟨h1, h2, h0, h3⟩ hag
  simp only at h1 h2 h0 h3 ⊢
  subst h1 h2
  unfold S_laws_eqByteS_4
  simp only [Bool.cond_eq_ite, decide_eq_true_eq]
  by_cases hi : i < (b.length : Int)
  · have hw : Go.IntKind.wrap .i64 (i + 1) = i + 1 := w64 (by omega) (by omega)
    rw [if_pos hi, if_pos h0, if_pos hi, if_pos h0, if_pos hi, hw, hag (b, b, i + 1) ⟨rfl, rfl, by simp only; omega, by simp only; omega⟩ (by simp only; omega)]
    simp
  · rw [if_neg hi]
end Go.Proofs.Ytmanmgafjbnakaa.Pl

/- Words out of bytes. No condition. -/
namespace Go.Proofs.Ytmanmgafjbnakaa.Pl
open Go.Proofs.Ytmanmgafjbnakaa.R Go.Proofs.Ytmanmgafjbnakaa.XE
set_option linter.unusedVariables false
set_option linter.unusedSimpArgs false

def w2 (l : List Int) (i : Int) : Int := by_ l i * 256 + by_ l (i + 1)
def getW (l : List Int) (i : Int) : Int × Int × Bool := if 0 ≤ i ∧ i + 2 ≤ l.length then (w2 l i, i + 2, true) else (0, 0, false)
theorem w2_range {l : List Int} (h : isBytes l) (i : Int) : 0 ≤ w2 l i ∧ w2 l i ≤ 65535 := by
  have h1 := by_range h i
  have h2 := by_range h (i + 1)
  unfold w2
  omega
theorem join8 (a b : Int) (h0 : 0 ≤ a) (h1 : a < 256) (hb0 : 0 ≤ b) (hb1 : b < 256) : bits .or .i64 (Go.IntKind.wrap .i64 (a * 2 ^ (min (Int.toNat (8 : Int)) (Go.IntKind.bits .i64)))) b = a * 256 + b := by
  show bits .or .i64 (Go.IntKind.wrap .i64 (a * 256)) b = a * 256 + b
  rw [w64 (by omega) (by omega)]
  exact or_join 8 (by omega) a b h0 (by show a * 256 < _; omega) hb0 hb1
end Go.Proofs.Ytmanmgafjbnakaa.Pl

/- Texts out of bytes. No condition. -/
namespace Go.Proofs.Ytmanmgafjbnakaa.Pl
open Go.Proofs.Ytmanmgafjbnakaa.R Go.Proofs.Ytmanmgafjbnakaa.XE
set_option linter.unusedVariables false
set_option linter.unusedSimpArgs false

def noB : ByteArray := ⟨#[]⟩
def getT (l : List Int) (i : Int) : ByteArray × Int × Bool := if 0 ≤ i ∧ i + 2 ≤ l.length ∧ w2 l i ≤ 60 ∧ i + 2 + w2 l i ≤ l.length then (textOf ((l.take (i + 2 + w2 l i).toNat).drop (i + 2).toNat), i + 2 + w2 l i, true) else (noB, 0, false)
theorem getT_size (l : List Int) (i : Int) (hb : isBytes l) : (getT l i).1.size ≤ 60 := by
  unfold getT
  split
  · rename_i h
    have := w2_range hb i
    show (textOf _).data.size ≤ 60
    unfold textOf
    simp
    omega
  · show noB.data.size ≤ 60
    simp [noB]
theorem getT_next (l : List Int) (i : Int) (hb : isBytes l) : 0 ≤ (getT l i).2.1 ∧ (getT l i).2.1 ≤ l.length := by
  unfold getT
  split
  · rename_i h
    have := w2_range hb i
    simp only
    omega
  · simp only
    omega
theorem text_core {F : List Int × Int → Option (ByteArray × Int × Bool)} (l : List Int) (i : Int) (hb : isBytes l) (hl : l.length ≤ 1099511627776) (h0 : -1099511627776 ≤ i) (h1 : i ≤ 4398046511104)
    (hF : F (l, i) = Option.bind (some (getW l i)) fun r1 => Option.bind (bif (!r1.2.2) then some true else some (decide (r1.1 > (60 : Int)))) fun u2 => Option.bind (bif u2 then some true else some (decide (r1.1 > (Go.IntKind.wrap .i64 (((List.length l : Nat) : Int) - r1.2.1))))) fun u3 => bif u3 then some ({ data := #[] }, (0 : Int), false) else if (0 : Int) ≤ r1.2.1 then if r1.2.1 ≤ (Go.IntKind.wrap .i64 (r1.2.1 + r1.1)) then if (Go.IntKind.wrap .i64 (r1.2.1 + r1.1)) ≤ ((List.length l : Nat) : Int) then some ((textOf (List.drop (Int.toNat r1.2.1) (List.take (Int.toNat (Go.IntKind.wrap .i64 (r1.2.1 + r1.1))) l))), (Go.IntKind.wrap .i64 (r1.2.1 + r1.1)), true) else none else none else none) :
    F (l, i) = some (getT l i) := by
  rw [hF, Option.bind_some]
  have hr := w2_range hb i
  by_cases h : 0 ≤ i ∧ i + 2 ≤ l.length
  · have eW : getW l i = (w2 l i, i + 2, true) := if_pos h
    rw [eW]
    simp only [Bool.cond_eq_ite, decide_eq_true_eq]
    rw [w64 (n := (l.length : Int) - (i + 2)) (by omega) (by omega), w64 (n := i + 2 + w2 l i) (by omega) (by omega), if_neg (by simp), Option.bind_some]
    by_cases h60 : w2 l i ≤ 60
    · rw [if_neg (by simp; omega), Option.bind_some]
      by_cases hf : i + 2 + w2 l i ≤ l.length
      · have eT : getT l i = (textOf ((l.take (i + 2 + w2 l i).toNat).drop (i + 2).toNat), i + 2 + w2 l i, true) := if_pos ⟨h.1, h.2, h60, hf⟩
        rw [if_neg (by simp; omega), if_pos (by omega), if_pos (by omega), if_pos hf, eT]
      · have eT : getT l i = (noB, 0, false) := if_neg (by rintro ⟨_, _, _, h4⟩; exact hf h4)
        rw [if_pos (by simp; omega), eT]
        rfl
    · have eT : getT l i = (noB, 0, false) := if_neg (by rintro ⟨_, _, h4, _⟩; exact h60 h4)
      rw [if_pos (by simp; omega), Option.bind_some, eT]
      rfl
  · have eW : getW l i = (0, 0, false) := if_neg h
    have eT : getT l i = (noB, 0, false) := if_neg (by rintro ⟨h2, h3, _⟩; exact h ⟨h2, h3⟩)
    rw [eW, eT]
    rfl
end Go.Proofs.Ytmanmgafjbnakaa.Pl

/- Four bytes. No condition. -/
namespace Go.Proofs.Ytmanmgafjbnakaa.Pl
open Go.Proofs.Ytmanmgafjbnakaa.R Go.Proofs.Ytmanmgafjbnakaa.XE
set_option linter.unusedVariables false
set_option linter.unusedSimpArgs false

def get4 (l : List Int) (i : Int) : Int := by_ l i * 16777216 + by_ l (i + 1) * 65536 + by_ l (i + 2) * 256 + by_ l (i + 3)
theorem sh8 : (2 : Int) ^ (min (Int.toNat (8 : Int)) (Go.IntKind.bits .i64)) = 256 := by decide
theorem sh16 : (2 : Int) ^ (min (Int.toNat (16 : Int)) (Go.IntKind.bits .i64)) = 65536 := by decide
theorem sh24 : (2 : Int) ^ (min (Int.toNat (24 : Int)) (Go.IntKind.bits .i64)) = 16777216 := by decide
theorem or8 (a b : Int) (h0 : 0 ≤ a) (h1 : a < 4294967296) (hb0 : 0 ≤ b) (hb1 : b < 256) : bits .or .i64 (a * 256) b = a * 256 + b := or_join 8 (by omega) a b h0 (by show a * 256 < _; omega) hb0 hb1
theorem or16 (a b : Int) (h0 : 0 ≤ a) (h1 : a < 4294967296) (hb0 : 0 ≤ b) (hb1 : b < 65536) : bits .or .i64 (a * 65536) b = a * 65536 + b := or_join 16 (by omega) a b h0 (by show a * 65536 < _; omega) hb0 hb1
theorem or24 (a b : Int) (h0 : 0 ≤ a) (h1 : a < 4294967296) (hb0 : 0 ≤ b) (hb1 : b < 16777216) : bits .or .i64 (a * 16777216) b = a * 16777216 + b := or_join 24 (by omega) a b h0 (by show a * 16777216 < _; omega) hb0 hb1
end Go.Proofs.Ytmanmgafjbnakaa.Pl

/- What is drawn: the cursor's steps never fail. No condition. -/
namespace Go.Proofs.Ytmanmgafjbnakaa.Pl
open Go.Proofs.Ytmanmgafjbnakaa.R Go.Proofs.Ytmanmgafjbnakaa.XE
set_option linter.unusedVariables false
set_option linter.unusedSimpArgs false

/-- A cursor's place. -/
def curOk (c : List Int) (p : Int) : Prop := c.length ≤ 1099511627776 ∧ 0 ≤ p ∧ p ≤ c.length
/-- A step: it gives something, the code stays, the place stays right. -/
def gives {A : Type} (o : Option (A × List Int × Int × Int)) (c : List Int) (Q : A → Prop) : Prop := ∃ v p s, o = some (v, c, p, s) ∧ curOk c p ∧ Q v
end Go.Proofs.Ytmanmgafjbnakaa.Pl

/- One byte changed: the checksum is another. No condition. -/
namespace Go.Proofs.Ytmanmgafjbnakaa.Pl
open Go.Proofs.Ytmanmgafjbnakaa.R Go.Proofs.Ytmanmgafjbnakaa.XE
set_option linter.unusedVariables false
set_option linter.unusedSimpArgs false

theorem xor_cast (x y : Int) (hx0 : 0 ≤ x) (hx1 : x < 4294967296) (hy0 : 0 ≤ y) (hy1 : y < 4294967296) : bits .xor .i64 x y = ((x.toNat ^^^ y.toNat : Nat) : Int) := by
  have := xor_nat x.toNat y.toNat (by omega) (by omega)
  rwa [Int.toNat_of_nonneg hx0, Int.toNat_of_nonneg hy0] at this
theorem xor_inj_l {x y b : Int} (hx0 : 0 ≤ x) (hx1 : x < 4294967296) (hy0 : 0 ≤ y) (hy1 : y < 4294967296) (hb0 : 0 ≤ b) (hb1 : b < 4294967296) (h : bits .xor .i64 x b = bits .xor .i64 y b) : x = y := by
  rw [xor_cast x b hx0 hx1 hb0 hb1, xor_cast y b hy0 hy1 hb0 hb1] at h
  have h1 : x.toNat ^^^ b.toNat = y.toNat ^^^ b.toNat := by exact_mod_cast h
  have h2 := congrArg (· ^^^ b.toNat) h1
  simp only [Nat.xor_assoc, Nat.xor_self, Nat.xor_zero] at h2
  omega
theorem xor_comm' {x y : Int} (hx0 : 0 ≤ x) (hx1 : x < 4294967296) (hy0 : 0 ≤ y) (hy1 : y < 4294967296) : bits .xor .i64 x y = bits .xor .i64 y x := by
  rw [xor_cast x y hx0 hx1 hy0 hy1, xor_cast y x hy0 hy1 hx0 hx1, Nat.xor_comm]
theorem xor_top {x : Int} (h0 : 0 ≤ x) (h1 : x < 2147483648) : 2147483648 ≤ bits .xor .i64 x 2197175160 := by
  rw [xor_cast x _ h0 (by omega) (by omega) (by omega)]
  have ht : (x.toNat ^^^ (2197175160 : Int).toNat).testBit 31 = true := by
    rw [Nat.testBit_xor, Nat.testBit_lt_two_pow (show x.toNat < 2 ^ 31 by omega)]
    decide
  have := Nat.ge_two_pow_of_testBit ht
  omega
theorem crcBit_inj {x y : Int} (hx0 : 0 ≤ x) (hx1 : x < 4294967296) (hy0 : 0 ≤ y) (hy1 : y < 4294967296) (h : crcBit x = crcBit y) : x = y := by
  unfold crcBit at h
  have tx := xor_top (x := x / 2) (by omega) (by omega)
  have ty := xor_top (x := y / 2) (by omega) (by omega)
  by_cases hx : x % 2 = 1
  · by_cases hy : y % 2 = 1
    · rw [if_pos hx, if_pos hy] at h
      have := xor_inj_l (x := x / 2) (y := y / 2) (by omega) (by omega) (by omega) (by omega) (by omega) (by omega) h
      omega
    · rw [if_pos hx, if_neg hy] at h
      omega
  · by_cases hy : y % 2 = 1
    · rw [if_neg hx, if_pos hy] at h
      omega
    · rw [if_neg hx, if_neg hy] at h
      omega
theorem crcBits_inj : ∀ (n : Nat) {x y : Int}, 0 ≤ x → x < 4294967296 → 0 ≤ y → y < 4294967296 → crcBits n x = crcBits n y → x = y
  | 0, x, y, _, _, _, _, h => h
  | n + 1, x, y, a, b, c, d, h => by
    have rx := crcBit_range x a b
    have ry := crcBit_range y c d
    exact crcBit_inj a b c d (crcBits_inj n rx.1 rx.2 ry.1 ry.2 h)
theorem crcStep_inj {x y b b' : Int} (hx0 : 0 ≤ x) (hx1 : x < 4294967296) (hy0 : 0 ≤ y) (hy1 : y < 4294967296) (hb0 : 0 ≤ b) (hb1 : b < 256) (hc0 : 0 ≤ b') (hc1 : b' < 256) (h : crcStep x b = crcStep y b') : bits .xor .i64 x b = bits .xor .i64 y b' := by
  unfold crcStep at h
  have r1 := xor_range x b hx0 hx1 hb0 (by omega)
  have r2 := xor_range y b' hy0 hy1 hc0 (by omega)
  exact crcBits_inj 8 r1.1 r1.2 r2.1 r2.2 h
theorem crcFold_range : ∀ (l : List Int) (x : Int), isBytes l → 0 ≤ x → x < 4294967296 → 0 ≤ l.foldl crcStep x ∧ l.foldl crcStep x < 4294967296
  | [], x, _, h0, h1 => ⟨h0, h1⟩
  | b :: l, x, hb, h0, h1 => by
    have hb' := hb b (by simp)
    have r := crcStep_range x b h0 h1 hb'.1 hb'.2
    exact crcFold_range l _ (fun y hy => hb y (by simp [hy])) r.1 r.2
theorem crcFold_inj : ∀ (l : List Int) {x y : Int}, isBytes l → 0 ≤ x → x < 4294967296 → 0 ≤ y → y < 4294967296 → l.foldl crcStep x = l.foldl crcStep y → x = y
  | [], x, y, _, _, _, _, _, h => h
  | b :: l, x, y, hb, a0, a1, c0, c1, h => by
    have hb' := hb b (by simp)
    have r1 := crcStep_range x b a0 a1 hb'.1 hb'.2
    have r2 := crcStep_range y b c0 c1 hb'.1 hb'.2
    have := crcFold_inj l (fun y hy => hb y (by simp [hy])) r1.1 r1.2 r2.1 r2.2 h
    exact xor_inj_l a0 a1 c0 c1 hb'.1 (by omega) (crcStep_inj a0 a1 c0 c1 hb'.1 hb'.2 hb'.1 hb'.2 this)
theorem crcFold_set : ∀ (l : List Int) (i : Nat) (v x : Int), isBytes l → i < l.length → 0 ≤ v → v < 256 → 0 ≤ x → x < 4294967296 → (l.set i v).foldl crcStep x = l.foldl crcStep x → l.getD i 0 = v
  | b :: l, 0, v, x, hb, _, v0, v1, x0, x1, h => by
    have hb' := hb b (by simp)
    have r1 := crcStep_range x b x0 x1 hb'.1 hb'.2
    have r2 := crcStep_range x v x0 x1 v0 v1
    have h1 : crcStep x v = crcStep x b := crcFold_inj l (fun y hy => hb y (by simp [hy])) r2.1 r2.2 r1.1 r1.2 h
    have h2 := crcStep_inj x0 x1 x0 x1 v0 v1 hb'.1 hb'.2 h1
    rw [xor_comm' x0 x1 v0 (by omega), xor_comm' x0 x1 hb'.1 (by omega)] at h2
    exact (xor_inj_l v0 (by omega) hb'.1 (by omega) x0 x1 h2).symm
  | b :: l, i + 1, v, x, hb, hi, v0, v1, x0, x1, h => by
    have hb' := hb b (by simp)
    have r1 := crcStep_range x b x0 x1 hb'.1 hb'.2
    exact crcFold_set l i v _ (fun y hy => hb y (by simp [hy])) (by simpa using hi) v0 v1 r1.1 r1.2 h
/-- The law of the checksum. -/
theorem crc_set (l : List Int) (i : Nat) (v : Int) (hb : isBytes l) (hi : i < l.length) (v0 : 0 ≤ v) (v1 : v < 256) (h : crc (l.set i v) = crc l) : l.getD i 0 = v := by
  unfold crc at h
  have hb2 : isBytes (l.set i v) := fun y hy => by
    rcases List.mem_or_eq_of_mem_set hy with h | rfl
    · exact hb y h
    · exact ⟨v0, v1⟩
  have r1 := crcFold_range l 4294967295 hb (by omega) (by omega)
  have r2 := crcFold_range (l.set i v) 4294967295 hb2 (by omega) (by omega)
  exact crcFold_set l i v _ hb hi v0 v1 (by omega) (by omega) (xor_inj_l r2.1 r2.2 r1.1 r1.2 (by omega) (by omega) h)
theorem crc_range (l : List Int) (hb : isBytes l) : 0 ≤ crc l ∧ crc l < 4294967296 := by
  have r1 := crcFold_range l 4294967295 hb (by omega) (by omega)
  exact xor_range _ _ r1.1 r1.2 (by omega) (by omega)
end Go.Proofs.Ytmanmgafjbnakaa.Pl

/- What is drawn: bytes bent, one byte turned. No condition. -/
namespace Go.Proofs.Ytmanmgafjbnakaa.Pl
open Go.Proofs.Ytmanmgafjbnakaa.R Go.Proofs.Ytmanmgafjbnakaa.XE
set_option linter.unusedVariables false
set_option linter.unusedSimpArgs false

theorem wrap_u8 (n : Int) : Go.IntKind.wrap .u8 n = n % 256 := by
  simp [Go.IntKind.wrap, Go.IntKind.bits, Go.IntKind.signed]
theorem wrap_u8_range (n : Int) : 0 ≤ Go.IntKind.wrap .u8 n ∧ Go.IntKind.wrap .u8 n < 256 := by
  rw [wrap_u8]
  omega
theorem xor_u8 (x y : Int) (hx0 : 0 ≤ x) (hx1 : x < 256) (hy0 : 0 ≤ y) (hy1 : y < 256) : bits .xor .u8 x y = ((x.toNat ^^^ y.toNat : Nat) : Int) := by
  obtain ⟨a, rfl⟩ := Int.eq_ofNat_of_zero_le hx0
  obtain ⟨b, rfl⟩ := Int.eq_ofNat_of_zero_le hy0
  show IntKind.u8.wrap ((BitVec.ofInt 8 (a : Int) ^^^ BitVec.ofInt 8 (b : Int)).toNat : Int) = _
  rw [BitVec.toNat_xor, BitVec.ofInt_natCast, BitVec.ofInt_natCast, BitVec.toNat_ofNat, BitVec.toNat_ofNat, Nat.mod_eq_of_lt (by omega), Nat.mod_eq_of_lt (by omega), wrap_u8]
  have := Nat.xor_lt_two_pow (n := 8) (x := a) (y := b) (by omega) (by omega)
  simp only [Int.toNat_natCast]
  omega
theorem xor_u8_ne (x y : Int) (hx0 : 0 ≤ x) (hx1 : x < 256) (hy0 : 0 < y) (hy1 : y < 256) : 0 ≤ bits .xor .u8 x y ∧ bits .xor .u8 x y < 256 ∧ bits .xor .u8 x y ≠ x := by
  rw [xor_u8 x y hx0 hx1 (by omega) hy1]
  have := Nat.xor_lt_two_pow (n := 8) (x := x.toNat) (y := y.toNat) (by omega) (by omega)
  refine ⟨by omega, by omega, fun h => ?_⟩
  have h1 : x.toNat ^^^ y.toNat = x.toNat := by omega
  have h2 := congrArg (x.toNat ^^^ ·) h1
  simp only [← Nat.xor_assoc, Nat.xor_self, Nat.zero_xor] at h2
  omega
theorem xor_u8_range (x y : Int) (hx0 : 0 ≤ x) (hx1 : x < 256) (hy0 : 0 ≤ y) (hy1 : y < 256) : 0 ≤ bits .xor .u8 x y ∧ bits .xor .u8 x y < 256 := by
  rw [xor_u8 x y hx0 hx1 hy0 hy1]
  have := Nat.xor_lt_two_pow (n := 8) (x := x.toNat) (y := y.toNat) (by omega) (by omega)
  omega
theorem isBytes_set {l : List Int} (h : isBytes l) (i : Nat) {v : Int} (v0 : 0 ≤ v) (v1 : v < 256) : isBytes (l.set i v) := fun y hy => by
  rcases List.mem_or_eq_of_mem_set hy with h' | rfl
  · exact h y h'
  · exact ⟨v0, v1⟩
theorem cur0 (x : List Int) (hx : x.length ≤ 1099511627776) : curOk x 0 := ⟨hx, Int.le_refl _, by omega⟩
end Go.Proofs.Ytmanmgafjbnakaa.Pl

/- Words and fours as bytes. No condition. -/
namespace Go.Proofs.Ytmanmgafjbnakaa.Pl
open Go.Proofs.Ytmanmgafjbnakaa.R Go.Proofs.Ytmanmgafjbnakaa.XE
set_option linter.unusedVariables false
set_option linter.unusedSimpArgs false

theorem fdiv8 (x : Int) : Int.fdiv x (2 ^ (min (Int.toNat (8 : Int)) (Go.IntKind.bits .i64))) = x / 256 := by
  rw [sh8, Int.fdiv_eq_ediv_of_nonneg _ (by omega)]
theorem fdiv16 (x : Int) : Int.fdiv x (2 ^ (min (Int.toNat (16 : Int)) (Go.IntKind.bits .i64))) = x / 65536 := by
  rw [sh16, Int.fdiv_eq_ediv_of_nonneg _ (by omega)]
theorem fdiv24 (x : Int) : Int.fdiv x (2 ^ (min (Int.toNat (24 : Int)) (Go.IntKind.bits .i64))) = x / 16777216 := by
  rw [sh24, Int.fdiv_eq_ediv_of_nonneg _ (by omega)]
def two (x : Int) : List Int := [x / 256 % 256, x % 256]
def four (x : Int) : List Int := [x / 16777216 % 256, x / 65536 % 256, x / 256 % 256, x % 256]
theorem spec_PutW_eq (l : List Int) (x : Int) (hl : l.length ≤ 1048576) : F_spec_PutW (l, x) = some (l ++ two x) := by
  unfold F_spec_PutW
  simp only [wrap_u8, fdiv8, List.nil_append, List.length_nil, List.length_cons]
  rw [if_pos (by omega), if_pos (by omega)]
  rfl
theorem joined2 (a b : List Int) (h : a.length + b.length ≤ 2097152) : F_impl_joined [a, b] = some (a ++ b) := by
  have hF : FUEL = (FUEL - 3) + 1 + 1 + 1 := by
    have := FUEL_eq
    omega
  unfold F_impl_joined L_impl_joined_3
  rw [hF]
  have s0 : ∀ again, S_impl_joined_3 (fun x1 => some x1) again ([a, b], (2 : Int), (0 : Int), ([] : List E_u8)) = again ([a, b], 2, 1, a) := by
    intro again
    unfold S_impl_joined_3
    have hw : Go.IntKind.wrap .i64 (0 + 1) = 1 := w64 (by omega) (by omega)
    have hr : rd_s_u8 [a, b] 0 = a := rfl
    simp only [hw, hr, List.length_nil, List.length_cons, List.nil_append]
    rw [if_pos (by omega), if_pos (by omega), if_pos (by omega)]
    rfl
  have s1 : ∀ again, S_impl_joined_3 (fun x1 => some x1) again ([a, b], (2 : Int), (1 : Int), a) = again ([a, b], 2, 2, a ++ b) := by
    intro again
    unfold S_impl_joined_3
    have hw : Go.IntKind.wrap .i64 (1 + 1) = 2 := w64 (by omega) (by omega)
    have hr : rd_s_u8 [a, b] 1 = b := rfl
    simp only [hw, hr, List.length_cons, List.length_nil]
    rw [if_pos (by omega), if_pos (by omega), if_pos (by omega)]
    rfl
  have s2 : ∀ again, S_impl_joined_3 (fun x1 => some x1) again ([a, b], (2 : Int), (2 : Int), a ++ b) = some (a ++ b) := by
    intro again
    unfold S_impl_joined_3
    rfl
  rw [show ((List.length [a, b] : Nat) : Int) = 2 from rfl, iter, s0, iter, s1, iter, s2]
theorem impl_PutW_eq (l : List Int) (x : Int) (hl : l.length ≤ 1048576) : F_impl_PutW (l, x) = some (l ++ two x) := by
  unfold F_impl_PutW
  simp only [wrap_u8, fdiv8, and255]
  rw [joined2 l _ (by simp only [List.length_cons, List.length_nil]; omega)]
  simp only [Option.bind_some, two]
  rw [show x / 256 % 256 % 256 = x / 256 % 256 by omega, show x % 256 % 256 = x % 256 by omega]
theorem put4_eq (l : List Int) (x : Int) (hl : l.length ≤ 1000000) : F_impl_put4 (l, x) = some (l ++ four x) := by
  unfold F_impl_put4
  simp only [fdiv16]
  rw [impl_PutW_eq l _ (by omega)]
  simp only [Option.bind_some]
  rw [impl_PutW_eq _ _ (by simp only [two, List.length_append, List.length_cons, List.length_nil]; omega)]
  simp only [Option.bind_some, two, four, List.append_assoc, List.cons_append, List.nil_append]
  rw [show x / 65536 / 256 % 256 = x / 16777216 % 256 by omega]
theorem l17Four_eq (l : List Int) (x : Int) (hl : l.length ≤ 1048576) : F_spec_l17Four (l, x) = some (l ++ four x) := by
  unfold F_spec_l17Four
  simp only [wrap_u8, fdiv8, fdiv16, fdiv24, List.nil_append, List.length_nil, List.length_cons]
  rw [if_pos (by omega), if_pos (by omega)]
  rfl
theorem four_bytes (x : Int) : isBytes (four x) := by
  intro y hy
  simp only [four, List.mem_cons, List.mem_nil_iff, or_false] at hy
  rcases hy with h | h | h | h <;> subst h <;> omega
theorem isBytes_append {l m : List Int} (h : isBytes l) (h' : isBytes m) : isBytes (l ++ m) := fun x hx => (List.mem_append.1 hx).elim (h x) (h' x)
theorem by_set (l : List Int) (i : Nat) (v j : Int) (hj : j.toNat ≠ i) : by_ (l.set i v) j = by_ l j := by
  unfold by_
  rw [List.getD_eq_getElem?_getD, List.getD_eq_getElem?_getD, List.getElem?_set_ne (fun e => hj e.symm)]
theorem by_set_self (l : List Int) (i : Nat) (v : Int) (hi : i < l.length) : by_ (l.set i v) (i : Int) = v := by
  unfold by_
  rw [List.getD_eq_getElem?_getD, Int.toNat_natCast, List.getElem?_set_self hi]
  rfl
end Go.Proofs.Ytmanmgafjbnakaa.Pl

