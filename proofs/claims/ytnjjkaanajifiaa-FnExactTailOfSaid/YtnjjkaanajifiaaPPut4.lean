/- Base, Loops, Marks, Rng, Pool, Keys, Tree, Seen, Walk, Whole, Names, Ops, Crc, ReadW, Read, Four, Draw, Crc1, Draw2, Put4. No condition. -/
import Derived.Test.YtnjjkaanajifiaaDV0
import Derived.Laws.BitsLemmas
/- Plain words: loops, numbers, bytes, texts, the checksum. No condition. -/
namespace Go.Proofs.Ytnjjkaanajifiaa.Pl
open Go.Proofs.Ytnjjkaanajifiaa.R Go.Proofs.Ytnjjkaanajifiaa.XV
set_option linter.unusedVariables false
set_option linter.unusedSimpArgs false

/-! ### Loops -/
/-- A loop's value by its measure. -/
theorem loop_lt {T R : Type} {step : (T → Option R) → T → Option R} (μ : T → Nat) (inv : T → Prop) (G : T → Option R)
    (h : ∀ again t, inv t → (∀ t', inv t' → μ t' < μ t → again t' = G t') → step again t = G t) : ∀ (n : Nat) (t : T), inv t → μ t < n → iter step n t = G t := by
  intro n
  induction n with
  | zero => intro t _ hn; omega
  | succ n ih =>
    intro t ht hn
    rw [iter]
    exact h _ t ht fun t' ht' hlt => ih t' ht' (by omega)
theorem loop_fuel {T R : Type} {step : (T → Option R) → T → Option R} (μ : T → Nat) (inv : T → Prop) (G : T → Option R)
    (h : ∀ again t, inv t → (∀ t', inv t' → μ t' < μ t → again t' = G t') → step again t = G t) (t : T) (ht : inv t) (hn : μ t < 18446744073709551616) : iter step FUEL t = G t :=
  loop_lt μ inv G h FUEL t ht (by rw [FUEL_eq]; exact hn)

/-! ### Numbers -/
theorem w64 {n : Int} (h0 : -9223372036854775808 ≤ n) (h1 : n ≤ 9223372036854775807) : Go.IntKind.wrap .i64 n = n := by
  rw [IntKind.wrap_i64]
  omega
def inR (x a b : Int) : Bool := decide (a ≤ x) && decide (x ≤ b)
theorem inR_iff {x a b : Int} : inR x a b = true ↔ a ≤ x ∧ x ≤ b := by simp [inR]
theorem wrap_small (n : Nat) (h : n < 9223372036854775808) : IntKind.i64.wrap (n : Int) = n := by
  rw [IntKind.wrap_i64]
  omega
theorem ofInt_toNat (x : Int) : ((BitVec.ofInt 64 x).toNat : Int) = x % 18446744073709551616 := by
  rw [BitVec.toNat_ofInt]
  omega
theorem and_mask (x : Int) (m : Nat) (j : Nat) (hj : j < 63) (hm : m = 2 ^ j - 1) : bits .and .i64 x m = x % (2 ^ j : Nat) := by
  have hd : (2 ^ j : Nat) ∣ 18446744073709551616 := by
    have : (18446744073709551616 : Nat) = 2 ^ j * 2 ^ (64 - j) := by rw [← Nat.pow_add, show j + (64 - j) = 64 by omega]
    rw [this]
    exact Nat.dvd_mul_right _ _
  have hlt : m < 18446744073709551616 := by
    have : 2 ^ j ≤ 2 ^ 64 := Nat.pow_le_pow_right (by omega) (by omega)
    have h1 : 0 < 2 ^ j := Nat.two_pow_pos j
    omega
  have hj63 : 2 ^ j < 9223372036854775808 := by
    have : 2 ^ j ≤ 2 ^ 62 := Nat.pow_le_pow_right (by omega) (by omega)
    omega
  show IntKind.i64.wrap ((BitVec.ofInt 64 x &&& BitVec.ofInt 64 (m : Int)).toNat : Int) = _
  rw [BitVec.toNat_and, BitVec.ofInt_natCast, BitVec.toNat_ofNat, Nat.mod_eq_of_lt hlt, hm, Nat.and_two_pow_sub_one_eq_mod]
  have h2 := Nat.mod_lt (BitVec.ofInt 64 x).toNat (Nat.two_pow_pos j)
  rw [wrap_small _ (by omega), Int.natCast_emod, ofInt_toNat]
  exact Int.emod_emod_of_dvd _ (Int.ofNat_dvd.2 hd)
theorem and255 (x : Int) : bits .and .i64 x 255 = x % 256 := and_mask x 255 8 (by omega) (by decide)
theorem and1 (x : Int) : bits .and .i64 x 1 = x % 2 := and_mask x 1 1 (by omega) (by decide)
theorem xor_nat (a b : Nat) (ha : a < 9223372036854775808) (hb : b < 9223372036854775808) : bits .xor .i64 (a : Int) (b : Int) = ((a ^^^ b : Nat) : Int) := by
  show IntKind.i64.wrap ((BitVec.ofInt 64 (a : Int) ^^^ BitVec.ofInt 64 (b : Int)).toNat : Int) = _
  rw [BitVec.toNat_xor, BitVec.ofInt_natCast, BitVec.ofInt_natCast, BitVec.toNat_ofNat, BitVec.toNat_ofNat, Nat.mod_eq_of_lt (by omega), Nat.mod_eq_of_lt (by omega)]
  exact wrap_small _ (Nat.xor_lt_two_pow (n := 63) ha hb)
theorem or_nat (a b : Nat) (ha : a < 9223372036854775808) (hb : b < 9223372036854775808) : bits .or .i64 (a : Int) (b : Int) = ((a ||| b : Nat) : Int) := by
  show IntKind.i64.wrap ((BitVec.ofInt 64 (a : Int) ||| BitVec.ofInt 64 (b : Int)).toNat : Int) = _
  rw [BitVec.toNat_or, BitVec.ofInt_natCast, BitVec.ofInt_natCast, BitVec.toNat_ofNat, BitVec.toNat_ofNat, Nat.mod_eq_of_lt (by omega), Nat.mod_eq_of_lt (by omega)]
  exact wrap_small _ (Nat.or_lt_two_pow (n := 63) ha hb)
/-- High bits beside low bits. -/
theorem or_join (j : Nat) (hj : j ≤ 62) (a b : Int) (h0 : 0 ≤ a) (h1 : a * 2 ^ j < 9223372036854775808) (hb0 : 0 ≤ b) (hb1 : b < 2 ^ j) : bits .or .i64 (a * 2 ^ j) b = a * 2 ^ j + b := by
  obtain ⟨a, rfl⟩ := Int.eq_ofNat_of_zero_le h0
  obtain ⟨b, rfl⟩ := Int.eq_ofNat_of_zero_le hb0
  have e2 : ((2 : Int) ^ j) = ((2 ^ j : Nat) : Int) := by rw [Int.natCast_pow]; rfl
  have hb1' : b < 2 ^ j := by
    rw [e2] at hb1
    exact Int.ofNat_lt.1 hb1
  have e : (a : Int) * 2 ^ j = ((a * 2 ^ j : Nat) : Int) := by rw [e2, Int.natCast_mul]
  rw [e] at h1 ⊢
  have ha : a * 2 ^ j < 9223372036854775808 := Int.ofNat_lt.1 h1
  have hor : a * 2 ^ j ||| b = a * 2 ^ j + b := by
    rw [← Nat.shiftLeft_eq, Nat.shiftLeft_add_eq_or_of_lt hb1']
  have h62 : 2 ^ j ≤ 2 ^ 62 := Nat.pow_le_pow_right (by omega) hj
  have hbl : b < 9223372036854775808 := by omega
  rw [or_nat _ _ ha hbl, hor, Int.natCast_add]
theorem xor_range (x y : Int) (hx0 : 0 ≤ x) (hx1 : x < 4294967296) (hy0 : 0 ≤ y) (hy1 : y < 4294967296) : 0 ≤ bits .xor .i64 x y ∧ bits .xor .i64 x y < 4294967296 := by
  obtain ⟨a, rfl⟩ := Int.eq_ofNat_of_zero_le hx0
  obtain ⟨b, rfl⟩ := Int.eq_ofNat_of_zero_le hy0
  rw [xor_nat a b (by omega) (by omega)]
  have := Nat.xor_lt_two_pow (n := 32) (x := a) (y := b) (by omega) (by omega)
  omega

/-! ### Bytes -/
def isBytes (l : List Int) : Prop := ∀ x ∈ l, 0 ≤ x ∧ x < 256
def by_ (l : List Int) (i : Int) : Int := l.getD i.toNat 0
theorem by_range {l : List Int} (h : isBytes l) (i : Int) : 0 ≤ by_ l i ∧ by_ l i < 256 := by
  unfold by_
  rw [List.getD_eq_getElem?_getD]
  cases hl : l[i.toNat]? with
  | none => simp
  | some x => exact h x (List.mem_of_getElem? hl)
theorem isBytes_take {l : List Int} (h : isBytes l) (n : Nat) : isBytes (l.take n) := fun x hx => h x (List.mem_of_mem_take hx)
theorem isBytes_drop {l : List Int} (h : isBytes l) (n : Nat) : isBytes (l.drop n) := fun x hx => h x (List.mem_of_mem_drop hx)
theorem by_take {l : List Int} {n : Nat} {i : Int} (hi : i.toNat < n) : by_ (l.take n) i = by_ l i := by
  unfold by_
  rw [List.getD_eq_getElem?_getD, List.getD_eq_getElem?_getD, List.getElem?_take, if_pos hi]

/-! ### The checksum -/
def crcBit (x : Int) : Int := if x % 2 = 1 then bits .xor .i64 (x / 2) 2197175160 else x / 2
def crcBits : Nat → Int → Int
  | 0, x => x
  | n + 1, x => crcBits n (crcBit x)
def crcStep (x b : Int) : Int := crcBits 8 (bits .xor .i64 x b)
def crc (l : List Int) : Int := bits .xor .i64 (l.foldl crcStep 4294967295) 4294967295
theorem crcBit_range (x : Int) (h0 : 0 ≤ x) (h1 : x < 4294967296) : 0 ≤ crcBit x ∧ crcBit x < 4294967296 := by
  unfold crcBit
  split
  · exact xor_range _ _ (by omega) (by omega) (by omega) (by omega)
  · omega
theorem crcBits_range : ∀ (n : Nat) (x : Int), 0 ≤ x → x < 4294967296 → 0 ≤ crcBits n x ∧ crcBits n x < 4294967296
  | 0, _, h0, h1 => ⟨h0, h1⟩
  | n + 1, x, h0, h1 => crcBits_range n _ (crcBit_range x h0 h1).1 (crcBit_range x h0 h1).2
theorem crcStep_range (x b : Int) (h0 : 0 ≤ x) (h1 : x < 4294967296) (hb0 : 0 ≤ b) (hb1 : b < 256) : 0 ≤ crcStep x b ∧ crcStep x b < 4294967296 := by
  have := xor_range x b h0 h1 hb0 (by omega)
  exact crcBits_range 8 _ this.1 this.2
end Go.Proofs.Ytnjjkaanajifiaa.Pl

/- Loops over lists: copies, comparisons, sizes. No condition. -/
namespace Go.Proofs.Ytnjjkaanajifiaa.Pl
open Go.Proofs.Ytnjjkaanajifiaa.R Go.Proofs.Ytnjjkaanajifiaa.XV
set_option linter.unusedVariables false
set_option linter.unusedSimpArgs false

/-- What holds of every round's answer holds of the loop's. -/
theorem loop_prop {T R : Type} {step : (T → Option R) → T → Option R} (μ : T → Nat) (inv : T → Prop) (Q : T → Option R → Prop)
    (h : ∀ again t, inv t → (∀ t', inv t' → μ t' < μ t → Q t' (again t')) → Q t (step again t)) (t : T) (ht : inv t) (hn : μ t < 18446744073709551616) : Q t (iter step FUEL t) := by
  have key : ∀ (n : Nat) (t : T), inv t → μ t < n → Q t (iter step n t) := by
    intro n
    induction n with
    | zero => intro t _ hn; omega
    | succ n ih =>
      intro t ht hn
      rw [iter]
      exact h _ t ht fun t' ht' hlt => ih t' ht' (by omega)
  exact key FUEL t ht (by rw [FUEL_eq]; exact hn)
theorem getD_get {A : Type} (da : A) (l : List A) (i : Int) (h0 : 0 ≤ i) (h : i < l.length) : l.getD i.toNat da = l[i.toNat]'(by omega) := by
  rw [List.getD_eq_getElem?_getD, List.getElem?_eq_getElem (by omega)]
  rfl
theorem getD_mem {A : Type} (da : A) (l : List A) (i : Int) (h0 : 0 ≤ i) (h : i < l.length) : l.getD i.toNat da ∈ l := by
  rw [getD_get da l i h0 h]
  exact List.getElem_mem _
theorem drop_getD {A : Type} (da : A) (l : List A) (i : Int) (h0 : 0 ≤ i) (h : i < l.length) : l.drop i.toNat = l.getD i.toNat da :: l.drop (i + 1).toNat := by
  rw [getD_get da l i h0 h, show (i + 1).toNat = i.toNat + 1 by omega, ← List.drop_eq_getElem_cons]
theorem copy_loop {A R : Type} (da : A) {step : (List A × Int × List A → Option R) → List A × Int × List A → Option R} (k : List A → Option R) (l : List A) (hl : l.length ≤ 1099511627776)
    (h : ∀ again i o, 0 ≤ i → i < (l.length : Int) → o.length = l.length → step again (l, i, o) = again (l, i + 1, o.set i.toNat (l.getD i.toNat da)))
    (hd : ∀ again i o, ¬ i < (l.length : Int) → step again (l, i, o) = k o) (o : List A) (ho : o.length = l.length) : iter step FUEL (l, 0, o) = k l := by
  rw [loop_fuel (fun t : List A × Int × List A => t.1.length - t.2.1.toNat) (fun t => t.1 = l ∧ 0 ≤ t.2.1 ∧ t.2.1 ≤ l.length ∧ t.2.2.length = l.length) (fun t => k (t.2.2.take t.2.1.toNat ++ l.drop t.2.1.toNat)) ?_ (l, 0, o) ⟨rfl, by simp, by simp, ho⟩ (by simp; omega)]
  · simp
  · rintro again ⟨l', i, o⟩ ⟨rfl, h0, h1, hlen⟩ hag
    simp only at h0 h1 hlen hl ⊢
    by_cases hi : i < (l'.length : Int)
    · rw [h again i o h0 hi hlen, hag (l', i + 1, _) ⟨rfl, by simp only; omega, by simp only; omega, by simpa using hlen⟩ (by simp only; omega), drop_getD da l' i h0 hi]
      have e1 : (i + 1).toNat = i.toNat + 1 := by omega
      have hn : i.toNat < o.length := by omega
      simp only [e1]
      rw [List.take_succ_eq_append_getElem (by simpa using hn), List.take_set_of_le (Nat.le_refl _)]
      simp
    · have : i.toNat = l'.length := by omega
      rw [hd again i o hi, List.drop_of_length_le (by omega), List.take_of_length_le (by omega)]
      simp
theorem eq_loop {A R : Type} {step : (List A × List A × Int → Option R) → List A × List A × Int → Option R} (k : Unit → Option R) (l : List A) (hl : l.length ≤ 1099511627776)
    (h : ∀ again i, 0 ≤ i → i < (l.length : Int) → step again (l, l, i) = again (l, l, i + 1))
    (hd : ∀ again i, ¬ i < (l.length : Int) → step again (l, l, i) = k ()) : iter step FUEL (l, l, 0) = k () := by
  rw [loop_fuel (fun t : List A × List A × Int => t.1.length - t.2.2.toNat) (fun t => t.1 = l ∧ t.2.1 = l ∧ 0 ≤ t.2.2 ∧ t.2.2 ≤ l.length) (fun _ => k ()) ?_ (l, l, 0) ⟨rfl, rfl, by simp, by simp⟩ (by simp; omega)]
  rintro again ⟨a, b, i⟩ ⟨h1, h2, h0, h3⟩ hag
  simp only at h1 h2 h0 h3 ⊢
  subst h1 h2
  by_cases hi : i < (b.length : Int)
  · rw [h again i h0 hi]
    exact hag (b, b, i + 1) ⟨rfl, rfl, by simp only; omega, by simp only; omega⟩ (by simp only; omega)
  · exact hd again i hi
def sumW {A : Type} (w : A → Int) (l : List A) : Int := l.foldr (fun a s => w a + s) 0
theorem sumW_cons {A : Type} (w : A → Int) (a : A) (l : List A) : sumW w (a :: l) = w a + sumW w l := rfl
theorem sumW_mem {A : Type} {w : A → Int} (hw : ∀ a, 0 ≤ w a) : ∀ {l : List A} {a : A}, a ∈ l → w a ≤ sumW w l ∧ 0 ≤ sumW w l
  | b :: l, a, h => by
    have hs : 0 ≤ sumW w l := by
      clear h
      induction l with
      | nil => exact Int.le_refl _
      | cons c l ih => rw [sumW_cons]; have := hw c; omega
    rw [sumW_cons]
    have := hw b
    rcases List.mem_cons.1 h with rfl | h
    · omega
    · have := (sumW_mem hw h).1
      omega
theorem sumW_nonneg {A : Type} {w : A → Int} (hw : ∀ a, 0 ≤ w a) (l : List A) : 0 ≤ sumW w l := by
  induction l with
  | nil => exact Int.le_refl _
  | cons c l ih => rw [sumW_cons]; have := hw c; omega
/-- What a size function answers: it is over, or the weight is taken off. -/
def szOk (n w : Int) (o : Option Int) : Prop := ∃ r, o = some r ∧ (r < 0 ∨ (0 ≤ r ∧ r = n - w))
theorem sz_loop {A R : Type} (da : A) (w : A → Int) (f : A → Int → Option Int) {step : (List A × Int × Int → Option R) → List A × Int × Int → Option R} (k0 : Int × Int → Option R) (k1 : Int → Option R) (l : List A) (hl : l.length ≤ 1099511627776)
    (hw : ∀ a, 0 ≤ w a) (hf : ∀ a ∈ l, ∀ n, 0 ≤ n → n ≤ 1048576 → szOk n (w a) (f a n))
    (h : ∀ again n i r, 0 ≤ i → i < (l.length : Int) → f (l.getD i.toNat da) n = some r → step again (l, n, i) = if r < 0 then k0 (r, -1) else again (l, r, i + 1))
    (hd : ∀ again n i, ¬ i < (l.length : Int) → step again (l, n, i) = k1 n) (n : Int) (hn0 : 0 ≤ n) (hn1 : n ≤ 1048576) :
    (∃ r, iter step FUEL (l, n, 0) = k0 (r, -1)) ∨ (∃ r, 0 ≤ r ∧ r = n - sumW w l ∧ iter step FUEL (l, n, 0) = k1 r) := by
  have key := loop_prop (step := step) (fun t : List A × Int × Int => t.1.length - t.2.2.toNat) (fun t => t.1 = l ∧ 0 ≤ t.2.1 ∧ t.2.1 ≤ 1048576 ∧ 0 ≤ t.2.2 ∧ t.2.2 ≤ l.length)
    (fun t res => (∃ r, res = k0 (r, -1)) ∨ (∃ r, 0 ≤ r ∧ r = t.2.1 - sumW w (l.drop t.2.2.toNat) ∧ res = k1 r)) ?_ (l, n, 0) ⟨rfl, hn0, hn1, by simp, by simp⟩ (by simp; omega)
  · simpa using key
  · rintro again ⟨l', n, i⟩ ⟨rfl, a0, a1, h0, h1⟩ hag
    simp only at a0 a1 h0 h1 hl ⊢
    by_cases hi : i < (l'.length : Int)
    · obtain ⟨r, hr, hc⟩ := hf _ (getD_mem da l' i h0 hi) n a0 a1
      have := hw (l'.getD i.toNat da)
      rw [h again n i r h0 hi hr, drop_getD da l' i h0 hi, sumW_cons]
      rcases hc with hc | ⟨hc0, hc1⟩
      · rw [if_pos hc]
        exact .inl ⟨r, rfl⟩
      · rw [if_neg (by omega)]
        rcases hag (l', r, i + 1) ⟨rfl, hc0, by simp only; omega, by simp only; omega, by simp only; omega⟩ (by simp only; omega) with hh | ⟨r', q0, q1, q2⟩
        · exact .inl hh
        · exact .inr ⟨r', q0, by simp only at q1; omega, q2⟩
    · rw [hd again n i hi, List.drop_of_length_le (by omega)]
      exact .inr ⟨n, a0, by simp [sumW], rfl⟩
end Go.Proofs.Ytnjjkaanajifiaa.Pl

/- Marks, element by element. No condition. -/
namespace Go.Proofs.Ytnjjkaanajifiaa.Pl
open Go.Proofs.Ytnjjkaanajifiaa.R Go.Proofs.Ytnjjkaanajifiaa.XV
set_option linter.unusedVariables false
set_option linter.unusedSimpArgs false

/-- What marking leaves, element by element. -/
def marksL {A : Type} (mk : A → Int → A) (cnt : A → Int) : List A → Int → List A
  | [], _ => []
  | a :: l, k => mk a k :: marksL mk cnt l (k + cnt a)
theorem marksL_len {A : Type} (mk : A → Int → A) (cnt : A → Int) : ∀ (l : List A) (k : Int), (marksL mk cnt l k).length = l.length
  | [], _ => rfl
  | a :: l, k => by simp [marksL, marksL_len mk cnt l]
theorem mark_loop {A R : Type} (da : A) (mk : A → Int → A) (cnt : A → Int) (hc : ∀ a, 0 ≤ cnt a) (P : A → Prop) {step : (Int × Int × List A → Option R) → Int × Int × List A → Option R} (k0 : Int × List A → Option R) (M : Int)
    (h : ∀ again k i l, 0 ≤ i → i < ((List.length l : Nat) : Int) → 0 ≤ k → k + cnt (l.getD i.toNat da) ≤ M → (List.length l : Int) ≤ 1099511627776 → P (l.getD i.toNat da) → step again (k, i, l) = again (k + cnt (l.getD i.toNat da), i + 1, l.set i.toNat (mk (l.getD i.toNat da) k)))
    (hd : ∀ again k i l, ¬ i < ((List.length l : Nat) : Int) → step again (k, i, l) = k0 (k, l))
    (l : List A) (k : Int) (hk : 0 ≤ k) (hl : l.length ≤ 1099511627776) (hM : k + sumW cnt l ≤ M) (hP : ∀ a ∈ l, P a) : iter step FUEL (k, 0, l) = k0 (k + sumW cnt l, marksL mk cnt l k) := by
  rw [loop_fuel (fun t : Int × Int × List A => l.length - t.2.1.toNat) (fun t => 0 ≤ t.2.1 ∧ t.2.1 ≤ l.length ∧ t.2.2.length = l.length ∧ 0 ≤ t.1 ∧ t.1 + sumW cnt (t.2.2.drop t.2.1.toNat) ≤ M ∧ ∀ a ∈ t.2.2.drop t.2.1.toNat, P a) (fun t => k0 (t.1 + sumW cnt (t.2.2.drop t.2.1.toNat), t.2.2.take t.2.1.toNat ++ marksL mk cnt (t.2.2.drop t.2.1.toNat) t.1)) ?_ (k, 0, l) ⟨by simp, by simp, rfl, hk, by simpa using hM, by simpa using hP⟩ (by simp; omega)]
  · simp
  · rintro again ⟨k', i, o⟩ ⟨h1, h2, h3, h4, h5, h6⟩ hag
    simp only at h1 h2 h3 h4 h5 h6 ⊢
    by_cases hi : i < ((List.length o : Nat) : Int)
    · have hn : i.toNat < o.length := by omega
      rw [drop_getD da o i h1 hi] at h5 h6 ⊢
      rw [sumW_cons] at h5 ⊢
      have hs := sumW_nonneg hc (o.drop (i + 1).toNat)
      have e1 : (i + 1).toNat = i.toNat + 1 := by omega
      have hd1 : (o.set i.toNat (mk (o.getD i.toNat da) k')).drop (i + 1).toNat = o.drop (i + 1).toNat := by
        rw [e1, List.drop_set_of_lt (by omega)]
      rw [h again k' i o h1 hi h4 (by omega) (by omega) (h6 _ (by simp)), hag (k' + cnt (o.getD i.toNat da), i + 1, o.set i.toNat (mk (o.getD i.toNat da) k')) ⟨by simp only; omega, by simp only; omega, by simpa using h3, by have := hc (o.getD i.toNat da); simp only; omega, by
        simp only [hd1]
        omega, by
        simp only [hd1]
        exact fun a ha => h6 a (by simp [ha])⟩ (by simp only; omega)]
      simp only [hd1]
      rw [e1, List.take_succ_eq_append_getElem (by simpa using hn), List.take_set_of_le (Nat.le_refl _)]
      simp [marksL, Int.add_assoc]
    · rw [hd again k' i o hi, List.drop_of_length_le (by omega), List.take_of_length_le (by omega)]
      simp [sumW, marksL]
theorem held_loop {A R : Type} (da : A) (mk : A → Int → A) (cnt : A → Int) (hc : ∀ a, 0 ≤ cnt a) {step : (List A × Int × Int → Option R) → List A × Int × Int → Option R} (k1 : Int → Option R) (M : Int)
    (h : ∀ again l k i a, 0 ≤ i → i < ((List.length l : Nat) : Int) → 0 ≤ k → k + cnt a ≤ M → (List.length l : Int) ≤ 1099511627776 → l.getD i.toNat da = mk a k → step again (l, k, i) = again (l, k + cnt a, i + 1))
    (hd : ∀ again l k i, ¬ i < ((List.length l : Nat) : Int) → step again (l, k, i) = k1 k)
    (l : List A) (k : Int) (hk : 0 ≤ k) (hl : l.length ≤ 1099511627776) (hM : k + sumW cnt l ≤ M) : iter step FUEL (marksL mk cnt l k, k, 0) = k1 (k + sumW cnt l) := by
  have hlen := marksL_len mk cnt l k
  rw [loop_fuel (fun t : List A × Int × Int => l.length - t.2.2.toNat) (fun t => t.1 = marksL mk cnt l k ∧ 0 ≤ t.2.2 ∧ t.2.2 ≤ l.length ∧ 0 ≤ t.2.1 ∧ ∃ r, t.1.drop t.2.2.toNat = marksL mk cnt r t.2.1 ∧ t.2.1 + sumW cnt r = k + sumW cnt l) (fun t => k1 (k + sumW cnt l)) ?_ (marksL mk cnt l k, k, 0) ⟨rfl, by simp, by simp, hk, l, by simp, rfl⟩ (by simp; omega)]
  rintro again ⟨o, k', i⟩ ⟨h1, h2, h3, h4, r, h5, h6⟩ hag
  simp only at h1 h2 h3 h4 h5 h6 ⊢
  subst h1
  by_cases hi : i < ((List.length (marksL mk cnt l k) : Nat) : Int)
  · rw [drop_getD da _ i h2 hi] at h5
    cases r with
    | nil => simp [marksL] at h5
    | cons a r =>
      rw [marksL] at h5
      injection h5 with e1 e2
      rw [sumW_cons] at h6
      have hs := sumW_nonneg hc r
      rw [h again _ k' i a h2 hi h4 (by omega) (by omega) e1]
      exact hag _ ⟨rfl, by simp only; omega, by simp only; omega, by have := hc a; simp only; omega, r, e2, by simp only; omega⟩ (by simp only; omega)
  · have hz : sumW cnt r = 0 := by
      rw [List.drop_of_length_le (by omega)] at h5
      cases r with
      | nil => rfl
      | cons a r => simp [marksL] at h5
    rw [hd again _ k' i hi, show k' = k + sumW cnt l by omega]
end Go.Proofs.Ytnjjkaanajifiaa.Pl

/- Ranges. No condition. -/
namespace Go.Proofs.Ytnjjkaanajifiaa.Pl
open Go.Proofs.Ytnjjkaanajifiaa.R Go.Proofs.Ytnjjkaanajifiaa.XV
set_option linter.unusedVariables false
set_option linter.unusedSimpArgs false

theorem l1In_eq (x a b : Int) : F_spec_l1In (x, a, b) = some (inR x a b) := by
  unfold F_spec_l1In inR
  by_cases h : x ≥ a <;> simp [h]
theorem within_eq (x a b : Int) : F_impl_within (x, a, b) = some (inR x a b) := by
  unfold F_impl_within inR
  by_cases h : x ≥ a <;> simp [h]
theorem bi (x y : Int) : ((x == y) = true) = (x = y) := by simp
end Go.Proofs.Ytnjjkaanajifiaa.Pl

/- Pools: copies, comparisons, sizes. No condition. -/
namespace Go.Proofs.Ytnjjkaanajifiaa.Pl
open Go.Proofs.Ytnjjkaanajifiaa.R Go.Proofs.Ytnjjkaanajifiaa.XV
set_option linter.unusedVariables false
set_option linter.unusedSimpArgs false

theorem sz_flat (n : Int) (m : Nat) (hn0 : 0 ≤ n) (hn1 : n ≤ 1048576) (hm : m ≤ maxLen) : szOk n m (bif decide (Go.IntKind.wrap .i64 (n - ((m : Nat) : Int)) < (0 : Int)) then some (-1 : Int) else some (Go.IntKind.wrap .i64 (n - ((m : Nat) : Int)))) := by
  simp only [maxLen] at hm
  rw [w64 (n := n - m) (by omega) (by omega)]
  simp only [Bool.cond_eq_ite, decide_eq_true_eq]
  by_cases h : n - m < 0
  · rw [if_pos h]
    exact ⟨-1, rfl, .inl (by omega)⟩
  · rw [if_neg h]
    exact ⟨_, rfl, .inr ⟨by omega, rfl⟩⟩
end Go.Proofs.Ytnjjkaanajifiaa.Pl

/- Sets of keys: both sides put, merge, drop and collect alike. No condition. -/
namespace Go.Proofs.Ytnjjkaanajifiaa.Pl
open Go.Proofs.Ytnjjkaanajifiaa.R Go.Proofs.Ytnjjkaanajifiaa.XV
set_option linter.unusedVariables false
set_option linter.unusedSimpArgs false

/-- A loop that folds a list. -/
theorem fold_loop {T A S R : Type} {step : (T → Option R) → T → Option R} (mk : Int → S → T) (k : S → Option R) (da : A) (g : S → A → S) (l : List A) (hl : l.length ≤ 1099511627776) (I : Nat → S → Prop)
    (h : ∀ again i s, 0 ≤ i → i < (l.length : Int) → I i.toNat s → step again (mk i s) = again (mk (i + 1) (g s (l.getD i.toNat da))) ∧ I (i.toNat + 1) (g s (l.getD i.toNat da)))
    (hd : ∀ again i s, ¬ i < (l.length : Int) → step again (mk i s) = k s) (s : S) (hs : I 0 s) : iter step FUEL (mk 0 s) = k (l.foldl g s) := by
  have key : ∀ (n : Nat) (i : Int) (s : S), 0 ≤ i → i ≤ l.length → I i.toNat s → l.length - i.toNat < n → iter step n (mk i s) = k ((l.drop i.toNat).foldl g s) := by
    intro n
    induction n with
    | zero => intro i s _ _ _ hn; omega
    | succ n ih =>
      intro i s h0 h1 hI hn
      rw [iter]
      by_cases hi : i < (l.length : Int)
      · obtain ⟨e, hI'⟩ := h (iter step n) i s h0 hi hI
        have e1 : (i + 1).toNat = i.toNat + 1 := by omega
        rw [e, ih (i + 1) _ (by omega) (by omega) (by rw [e1]; exact hI') (by omega), drop_getD da l i h0 hi]
        rfl
      · rw [hd _ i s hi, List.drop_of_length_le (by omega)]
        rfl
  have := key FUEL 0 s (by omega) (by omega) hs (by rw [FUEL_eq]; simp; omega)
  simpa using this

theorem lt40 {n k : Nat} (h : n ≤ 1073741825) (hk : (1073741825 + k) * 40 < 140737488355328) : (n + k) * 40 < 140737488355328 := by omega
def pN (p : Bool) : Nat := if p then 1 else 0
end Go.Proofs.Ytnjjkaanajifiaa.Pl

/- Sets of keys: merge, drop, collect; the bound; the law. No condition. -/
namespace Go.Proofs.Ytnjjkaanajifiaa.Pl
open Go.Proofs.Ytnjjkaanajifiaa.R Go.Proofs.Ytnjjkaanajifiaa.XV
set_option linter.unusedVariables false
set_option linter.unusedSimpArgs false

end Go.Proofs.Ytnjjkaanajifiaa.Pl

/- Ages, paths, what is seen: both sides alike. No condition. -/
namespace Go.Proofs.Ytnjjkaanajifiaa.Pl
open Go.Proofs.Ytnjjkaanajifiaa.R Go.Proofs.Ytnjjkaanajifiaa.XV
set_option linter.unusedVariables false
set_option linter.unusedSimpArgs false

/-! ### Loops that end early -/
/-- A walk over a list: each round goes on with a state or answers. -/
def runE {S A R : Type} (g : Int → S → A → Except (Option R) S) (k : S → Option R) : List A → Int → S → Option R
  | [], _, s => k s
  | a :: l, i, s => match g i s a with
    | .error r => r
    | .ok s' => runE g k l (i + 1) s'
theorem runE_loop {T A S R : Type} {step : (T → Option R) → T → Option R} (mk : Int → S → T) (g : Int → S → A → Except (Option R) S) (k : S → Option R) (da : A) (l : List A) (hl : l.length ≤ 1099511627776) (I : Nat → S → Prop)
    (h : ∀ again i s, 0 ≤ i → i < (l.length : Int) → I i.toNat s → (step again (mk i s) = match g i s (l.getD i.toNat da) with
      | .error r => r
      | .ok s' => again (mk (i + 1) s')) ∧ ∀ s', g i s (l.getD i.toNat da) = .ok s' → I (i.toNat + 1) s')
    (hd : ∀ again i s, ¬ i < (l.length : Int) → step again (mk i s) = k s) (s : S) (hs : I 0 s) : iter step FUEL (mk 0 s) = runE g k l 0 s := by
  have key : ∀ (n : Nat) (i : Int) (s : S), 0 ≤ i → i ≤ l.length → I i.toNat s → l.length - i.toNat < n → iter step n (mk i s) = runE g k (l.drop i.toNat) i s := by
    intro n
    induction n with
    | zero => intro i s _ _ _ hn; omega
    | succ n ih =>
      intro i s h0 h1 hI hn
      rw [iter]
      by_cases hi : i < (l.length : Int)
      · obtain ⟨e, hI'⟩ := h (iter step n) i s h0 hi hI
        have e1 : (i + 1).toNat = i.toNat + 1 := by omega
        rw [e, drop_getD da l i h0 hi, runE]
        cases hg : g i s (l.getD i.toNat da) with
        | error r => rfl
        | ok s' => exact ih (i + 1) s' (by omega) (by omega) (by rw [e1]; exact hI' s' hg) (by omega)
      · rw [hd _ i s hi, List.drop_of_length_le (by omega)]
        rfl
  have := key FUEL 0 s (by omega) (by omega) hs (by rw [FUEL_eq]; simp; omega)
  simpa using this
/-- The first place where p holds, counted from i; -1: there is none. -/
def findI {A : Type} (p : A → Bool) : List A → Int → Int
  | [], _ => -1
  | a :: l, i => if p a then i else findI p l (i + 1)
theorem runE_find {A R : Type} (p : A → Bool) (hit : Int → Option R) (miss : Option R) : ∀ (l : List A) (i : Int), 0 ≤ i → runE (fun i (_ : Unit) a => if p a then .error (hit i) else .ok ()) (fun _ => miss) l i () = if findI p l i < 0 then miss else hit (findI p l i)
  | [], i, _ => by simp [runE, findI]
  | a :: l, i, h => by
    rw [runE, findI]
    by_cases hp : p a = true
    · rw [if_pos hp, if_pos hp, if_neg (by omega)]
    · rw [if_neg hp, if_neg hp]
      exact runE_find p hit miss l (i + 1) (by omega)
theorem find_loop {T A R : Type} {step : (T → Option R) → T → Option R} (mk : Int → T) (p : A → Bool) (hit : Int → Option R) (miss : Option R) (da : A) (l : List A) (hl : l.length ≤ 1099511627776)
    (h : ∀ again i, 0 ≤ i → i < (l.length : Int) → step again (mk i) = if p (l.getD i.toNat da) then hit i else again (mk (i + 1)))
    (hd : ∀ again i, ¬ i < (l.length : Int) → step again (mk i) = miss) : iter step FUEL (mk 0) = if findI p l 0 < 0 then miss else hit (findI p l 0) := by
  rw [← runE_find p hit miss l 0 (Int.le_refl _)]
  refine runE_loop (fun i (_ : Unit) => mk i) _ _ da l hl (fun _ _ => True) (fun again i s h0 h1 _ => ⟨?_, fun _ _ => trivial⟩) (fun again i s hi => hd again i hi) () trivial
  rw [h again i h0 h1]
  cases p (l.getD i.toNat da) <;> rfl
theorem findI_spec {A : Type} (p : A → Bool) (da : A) : ∀ (l : List A) (i : Int), 0 ≤ i → findI p l i = -1 ∨ (i ≤ findI p l i ∧ findI p l i < i + l.length ∧ p (l.getD (findI p l i - i).toNat da) = true)
  | [], i, _ => .inl rfl
  | a :: l, i, h => by
    rw [findI]
    by_cases hp : p a = true
    · rw [if_pos hp]
      refine .inr ⟨Int.le_refl _, by simp only [List.length_cons]; omega, ?_⟩
      simpa using hp
    · rw [if_neg hp]
      rcases findI_spec p da l (i + 1) (by omega) with e | ⟨e1, e2, e3⟩
      · exact .inl e
      · refine .inr ⟨by omega, by simp only [List.length_cons]; omega, ?_⟩
        rw [show (findI p l (i + 1) - i).toNat = (findI p l (i + 1) - (i + 1)).toNat + 1 by omega, List.getD_cons_succ]
        exact e3

/-! ### Ages -/
def hasI (l : List Int) (v : Int) : Bool := decide (0 ≤ findI (fun a : Int => a == v) l 0)
end Go.Proofs.Ytnjjkaanajifiaa.Pl

/- Walks over lists that end early, by what ends them. No condition. -/
namespace Go.Proofs.Ytnjjkaanajifiaa.Pl
open Go.Proofs.Ytnjjkaanajifiaa.R Go.Proofs.Ytnjjkaanajifiaa.XV
set_option linter.unusedVariables false
set_option linter.unusedSimpArgs false

/-- Some element, at its place, is such. -/
def anyE {A : Type} (p : Int → A → Bool) : List A → Int → Bool
  | [], _ => false
  | a :: l, i => p i a || anyE p l (i + 1)
theorem anyE_or {A : Type} (p q : Int → A → Bool) : ∀ (l : List A) (i : Int), anyE (fun i a => p i a || q i a) l i = (anyE p l i || anyE q l i)
  | [], _ => rfl
  | a :: l, i => by
    rw [anyE, anyE, anyE, anyE_or p q l (i + 1)]
    cases p i a <;> cases q i a <;> cases anyE p l (i + 1) <;> rfl
theorem anyE_congr {A : Type} {p q : Int → A → Bool} : ∀ (l : List A) (i : Int), (∀ j a, i ≤ j → p j a = q j a) → anyE p l i = anyE q l i
  | [], _, _ => rfl
  | a :: l, i, h => by rw [anyE, anyE, h i a (Int.le_refl _), anyE_congr l (i + 1) (fun j a hj => h j a (by omega))]
theorem anyE_get {A : Type} (da : A) {p : Int → A → Bool} : ∀ (l : List A) (i : Int), anyE p l i = false → ∀ j : Nat, j < l.length → p (i + j) (l.getD j da) = false
  | a :: l, i, h, 0, _ => by
    rw [anyE, Bool.or_eq_false_iff] at h
    simpa using h.1
  | a :: l, i, h, j + 1, hj => by
    rw [anyE, Bool.or_eq_false_iff] at h
    have := anyE_get da l (i + 1) h.2 j (by simpa using hj)
    rw [show i + ((j + 1 : Nat) : Int) = i + 1 + (j : Int) by omega, List.getD_cons_succ]
    exact this
/-- A walk that folds, unless some element ends it. -/
theorem runE_any {A S R : Type} (p : Int → A → Bool) (f : S → A → S) (r : Option R) (k : S → Option R) : ∀ (l : List A) (i : Int) (s : S), runE (fun i s a => if p i a = true then .error r else .ok (f s a)) k l i s = if anyE p l i = true then r else k (l.foldl f s)
  | [], _, _ => by simp [runE, anyE]
  | a :: l, i, s => by
    rw [runE, anyE]
    by_cases h : p i a = true
    · simp [h]
    · have hf : p i a = false := by simpa using h
      simp only [hf, Bool.false_eq_true, if_false, Bool.false_or, List.foldl_cons]
      exact runE_any p f r k l (i + 1) (f s a)
/-- From any place on. -/
theorem runE_from {T A S R : Type} {step : (T → Option R) → T → Option R} (mk : Int → S → T) (g : Int → S → A → Except (Option R) S) (k : S → Option R) (da : A) (l : List A) (hl : l.length ≤ 1099511627776) (I : Nat → S → Prop)
    (h : ∀ again i s, 0 ≤ i → i < (l.length : Int) → I i.toNat s → (step again (mk i s) = match g i s (l.getD i.toNat da) with
      | .error r => r
      | .ok s' => again (mk (i + 1) s')) ∧ ∀ s', g i s (l.getD i.toNat da) = .ok s' → I (i.toNat + 1) s')
    (hd : ∀ again i s, ¬ i < (l.length : Int) → step again (mk i s) = k s) (i0 : Int) (h00 : 0 ≤ i0) (s : S) (hs : I i0.toNat s) : iter step FUEL (mk i0 s) = runE g k (l.drop i0.toNat) i0 s := by
  have key : ∀ (n : Nat) (i : Int) (s : S), 0 ≤ i → I i.toNat s → l.length - i.toNat < n → iter step n (mk i s) = runE g k (l.drop i.toNat) i s := by
    intro n
    induction n with
    | zero => intro i s _ _ hn; omega
    | succ n ih =>
      intro i s h0 hI hn
      rw [iter]
      by_cases hi : i < (l.length : Int)
      · obtain ⟨e, hI'⟩ := h (iter step n) i s h0 hi hI
        have e1 : (i + 1).toNat = i.toNat + 1 := by omega
        rw [e, drop_getD da l i h0 hi, runE]
        cases hg : g i s (l.getD i.toNat da) with
        | error r => rfl
        | ok s' => exact ih (i + 1) s' (by omega) (by rw [e1]; exact hI' s' hg) (by omega)
      · rw [hd _ i s hi, List.drop_of_length_le (by omega)]
        rfl
  exact key FUEL i0 s h00 hs (by rw [FUEL_eq]; omega)
/-- The walk that ends with r where p holds, and folds by f else. -/
theorem any_loop {T A S R : Type} {step : (T → Option R) → T → Option R} (mk : Int → S → T) (p : Int → A → Bool) (f : S → A → S) (r : Option R) (k : S → Option R) (da : A) (l : List A) (hl : l.length ≤ 1099511627776)
    (h : ∀ again i s, 0 ≤ i → i < (l.length : Int) → step again (mk i s) = if p i (l.getD i.toNat da) = true then r else again (mk (i + 1) (f s (l.getD i.toNat da))))
    (hd : ∀ again i s, ¬ i < (l.length : Int) → step again (mk i s) = k s) (s : S) : iter step FUEL (mk 0 s) = if anyE p l 0 = true then r else k (l.foldl f s) := by
  rw [← runE_any p f r k l 0 s]
  have := runE_from (step := step) mk (fun i s a => if p i a = true then .error r else .ok (f s a)) k da l hl (fun _ _ => True) (fun again i s h0 h1 _ => ⟨?_, fun _ _ => trivial⟩) hd 0 (Int.le_refl _) s trivial
  · simpa using this
  · rw [h again i s h0 h1]
    by_cases hp : p i (l.getD i.toNat da) = true
    · rw [if_pos hp, if_pos hp]
    · rw [if_neg hp, if_neg hp]
/-- The same without a state. -/
theorem any_loop0 {T A R : Type} {step : (T → Option R) → T → Option R} (mk : Int → T) (p : Int → A → Bool) (r k : Option R) (da : A) (l : List A) (hl : l.length ≤ 1099511627776)
    (h : ∀ again i, 0 ≤ i → i < (l.length : Int) → step again (mk i) = if p i (l.getD i.toNat da) = true then r else again (mk (i + 1)))
    (hd : ∀ again i, ¬ i < (l.length : Int) → step again (mk i) = k) : iter step FUEL (mk 0) = if anyE p l 0 = true then r else k :=
  any_loop (fun i (_ : Unit) => mk i) p (fun _ _ => ()) r (fun _ => k) da l hl (fun again i _ h0 h1 => h again i h0 h1) (fun again i _ hi => hd again i hi) ()
end Go.Proofs.Ytnjjkaanajifiaa.Pl

/- Whole pools: sizes, copies, comparisons. No condition. -/
namespace Go.Proofs.Ytnjjkaanajifiaa.Pl
open Go.Proofs.Ytnjjkaanajifiaa.R Go.Proofs.Ytnjjkaanajifiaa.XV
set_option linter.unusedVariables false
set_option linter.unusedSimpArgs false

theorem szStep (o : Option Int) (n w : Int) (k : Int → Option Int) (h : szOk n w o) : (Option.bind o fun r => bif (decide (r < (0 : Int))) then some (-1 : Int) else k r) = some (-1) ∨ (0 ≤ n - w ∧ (Option.bind o fun r => bif (decide (r < (0 : Int))) then some (-1 : Int) else k r) = k (n - w)) := by
  obtain ⟨r, rfl, hc⟩ := h
  simp only [Option.bind_some, Bool.cond_eq_ite, decide_eq_true_eq]
  rcases hc with hc | ⟨h0, h1⟩
  · exact .inl (if_pos hc)
  · subst h1
    exact .inr ⟨h0, if_neg (by omega)⟩
end Go.Proofs.Ytnjjkaanajifiaa.Pl

/- Names: what they answer. No condition. -/
namespace Go.Proofs.Ytnjjkaanajifiaa.Pl
open Go.Proofs.Ytnjjkaanajifiaa.R Go.Proofs.Ytnjjkaanajifiaa.XV
set_option linter.unusedVariables false
set_option linter.unusedSimpArgs false

def isW (n : Int) : Bool := inR n 0 65535
theorem l1Word_eq (x : Int) : F_spec_l1Word x = some (isW x) := by unfold F_spec_l1Word; rw [l1In_eq]; rfl
theorem isWord_eq (x : Int) : F_impl_isWord x = some (isW x) := by unfold F_impl_isWord; rw [within_eq]; rfl

/-! ### Names -/
def nameByte (c : Int) : Bool := inR c 97 122 || inR c 48 57
def nameAll (l : List UInt8) : Bool := l.all fun c => nameByte (c.toNat : Int)
def nameOk (s : ByteArray) : Bool := nameAll s.data.toList && inR s.size 1 6
theorem w64_byte (c : UInt8) : Go.IntKind.wrap .i64 (c.toNat : Int) = c.toNat := by
  have := c.toNat_lt
  exact w64 (by omega) (by omega)
theorem get_byte (s : ByteArray) (i : Nat) (h : i < s.size) : ByteArray.get s i h = s.data.toList[i]'(by rw [Array.length_toList]; exact h) := by
  rw [Array.getElem_toList]
  rfl
theorem drop_byte (s : ByteArray) (i : Nat) (h : i < s.size) : s.data.toList.drop i = ByteArray.get s i h :: s.data.toList.drop (i + 1) := by
  rw [get_byte, ← List.drop_eq_getElem_cons]
theorem spec_NameOk_eq (s : ByteArray) (hs : s.size ≤ maxLen) : F_spec_NameOk s = some (nameOk s) := by
  have hm : (s.size : Int) ≤ 9223372036854775807 := by simp only [maxLen] at hs; omega
  unfold F_spec_NameOk L_spec_NameOk_2
  rw [loop_fuel (fun t : ByteArray × Int => t.1.size - t.2.toNat) (fun t => t.1 = s ∧ 0 ≤ t.2 ∧ t.2 ≤ s.size) (fun t => if nameAll (t.1.data.toList.drop t.2.toNat) then some (inR s.size 1 6) else some false) ?_ (s, 0) ⟨rfl, by simp, by simp⟩ (by simp only [maxLen] at hs; simp; omega)]
  · unfold nameOk
    cases h : nameAll s.data.toList <;> simp [h]
  · rintro again ⟨s', i⟩ ⟨rfl, h0, h1⟩ hag
    simp only at h0 h1 hs hm ⊢
    unfold S_spec_NameOk_2
    simp only [Bool.cond_eq_ite, decide_eq_true_eq]
    by_cases hi : i < (s'.size : Int)
    · have hn : i.toNat < s'.size := by omega
      rw [if_pos hi, if_pos h0, dif_pos hn]
      simp only [l1In_eq, Option.bind_some, if_pos h0, dif_pos hn, w64_byte]
      rw [drop_byte s' i.toNat hn]
      have hw : Go.IntKind.wrap .i64 (i + 1) = i + 1 := w64 (by omega) (by omega)
      have e1 : (i + 1).toNat = i.toNat + 1 := by omega
      have hag' := hag (s', i + 1) ⟨rfl, by simp only; omega, by simp only; omega⟩ (by simp only; omega)
      simp only [nameAll, List.all_cons, nameByte] at hag' ⊢
      rw [hw, hag', e1]
      obtain ⟨c, hc⟩ : ∃ c, ByteArray.get s' i.toNat hn = c := ⟨_, rfl⟩
      simp only [hc]
      cases inR (c.toNat : Int) 97 122 <;> cases inR (c.toNat : Int) 48 57 <;> simp
    · rw [if_neg hi, List.drop_of_length_le (by rw [Array.length_toList]; show s'.size ≤ _; omega)]
      simp [nameAll, l1In_eq]
theorem impl_NameOk_eq (s : ByteArray) (hs : s.size ≤ maxLen) : F_impl_NameOk s = some (nameOk s) := by
  have hm : (s.size : Int) ≤ 9223372036854775807 := by simp only [maxLen] at hs; omega
  unfold F_impl_NameOk L_impl_NameOk_2
  rw [loop_fuel (fun t : ByteArray × Int => t.1.size - t.2.toNat) (fun t => t.1 = s ∧ 0 ≤ t.2 ∧ t.2 ≤ s.size) (fun t => if nameAll (t.1.data.toList.drop t.2.toNat) then some (inR s.size 1 6) else some false) ?_ (s, 0) ⟨rfl, by simp, by simp⟩ (by simp only [maxLen] at hs; simp; omega)]
  · unfold nameOk
    cases h : nameAll s.data.toList <;> simp [h]
  · rintro again ⟨s', i⟩ ⟨rfl, h0, h1⟩ hag
    simp only at h0 h1 hs hm ⊢
    unfold S_impl_NameOk_2
    simp only [Bool.cond_eq_ite, decide_eq_true_eq]
    by_cases hi : i < (s'.size : Int)
    · have hn : i.toNat < s'.size := by omega
      rw [if_pos hi, if_pos h0, dif_pos hn]
      simp only [within_eq, Option.bind_some, if_pos h0, dif_pos hn, w64_byte]
      rw [drop_byte s' i.toNat hn]
      have hw : Go.IntKind.wrap .i64 (i + 1) = i + 1 := w64 (by omega) (by omega)
      have e1 : (i + 1).toNat = i.toNat + 1 := by omega
      have hag' := hag (s', i + 1) ⟨rfl, by simp only; omega, by simp only; omega⟩ (by simp only; omega)
      simp only [nameAll, List.all_cons, nameByte] at hag' ⊢
      rw [hw, hag', e1]
      obtain ⟨c, hc⟩ : ∃ c, ByteArray.get s' i.toNat hn = c := ⟨_, rfl⟩
      simp only [hc]
      cases inR (c.toNat : Int) 97 122 <;> cases inR (c.toNat : Int) 48 57 <;> simp
    · rw [if_neg hi, List.drop_of_length_le (by rw [Array.length_toList]; show s'.size ≤ _; omega)]
      simp [nameAll, within_eq]

end Go.Proofs.Ytnjjkaanajifiaa.Pl

/- Operations: what they answer. No condition. -/
namespace Go.Proofs.Ytnjjkaanajifiaa.Pl
open Go.Proofs.Ytnjjkaanajifiaa.R Go.Proofs.Ytnjjkaanajifiaa.XV
set_option linter.unusedVariables false
set_option linter.unusedSimpArgs false

/-! ### Operations -/
def opZero (kind a b : Int) : Bool :=
  if kind = 2 then decide (a = 0) && inR b 0 1 else if kind = 3 ∨ kind = 7 then decide (a = 0) && decide (b = 0) else if kind = 4 then true else decide (b = 0)
def noText (s : ByteArray) : Bool := s.toList == ([] : List UInt8)
def opOk (kind : Int) (name tt : ByteArray) (a b : Int) : Bool :=
  inR kind 1 9 && (if kind ≥ 7 then noText name else nameOk name) && (if kind = 2 then nameOk tt else noText tt) && isW a && isW b && opZero kind a b
def entOk (seq kind : Int) (name tt : ByteArray) (a b : Int) : Bool := inR seq 1 60000 && opOk kind name tt a b
theorem spec_l15Zero_eq (kind : Int) (name tt : ByteArray) (a b : Int) : F_spec_l15Zero (kind, name, tt, a, b) = some (opZero kind a b) := by
  unfold F_spec_l15Zero opZero
  simp only [Bool.cond_eq_ite, l1In_eq, Option.bind_some, beq_iff_eq]
  by_cases h2 : kind = 2 <;> by_cases h3 : kind = 3 <;> by_cases h7 : kind = 7 <;> by_cases h4 : kind = 4 <;> by_cases ha : a = 0 <;> by_cases hb : b = 0 <;> simp_all
theorem toList_empty : (ByteArray.toList { data := #[] }) = [] := by
  unfold ByteArray.toList ByteArray.toList.loop
  rfl
theorem spec_OpOk_eq (kind : Int) (name tt : ByteArray) (a b : Int) (hn : name.size ≤ maxLen) (ht : tt.size ≤ maxLen) : F_spec_OpOk (kind, name, tt, a, b) = some (opOk kind name tt a b) := by
  unfold F_spec_OpOk opOk noText
  simp only [Bool.cond_eq_ite, spec_NameOk_eq _ hn, spec_NameOk_eq _ ht, l1In_eq, l1Word_eq, spec_l15Zero_eq, Option.bind_some, bi, toList_empty, decide_eq_true_eq]
  generalize (name.toList == ([] : List UInt8)) = n1
  generalize (tt.toList == ([] : List UInt8)) = n2
  generalize inR kind 1 9 = n3
  generalize opZero kind a b = n4
  by_cases h7 : kind ≥ 7 <;> by_cases h2 : kind = 2 <;> simp only [h7, h2, if_true, if_false, Option.bind_some] <;> cases n1 <;> cases n2 <;> cases n3 <;> cases n4 <;> cases nameOk name <;> cases nameOk tt <;> cases isW a <;> cases isW b <;> rfl
theorem impl_OpOk_eq (kind : Int) (name tt : ByteArray) (a b : Int) (hn : name.size ≤ maxLen) (ht : tt.size ≤ maxLen) : F_impl_OpOk (kind, name, tt, a, b) = some (opOk kind name tt a b) := by
  unfold F_impl_OpOk
  simp only [Bool.cond_eq_ite, impl_NameOk_eq _ hn, impl_NameOk_eq _ ht, within_eq, isWord_eq, Option.bind_some, bi, toList_empty, decide_eq_true_eq]
  unfold opOk noText
  generalize (name.toList == ([] : List UInt8)) = n1
  generalize (tt.toList == ([] : List UInt8)) = n2
  cases hwb : isW b with
  | false => cases inR kind 1 9 <;> cases isW a <;> simp
  | true =>
    obtain ⟨hb0, hb1⟩ := inR_iff.1 hwb
    have hb : inR b 0 1 = (decide (b ≤ 1)) := by simp [inR, hb0]
    unfold opZero
    rw [hb]
    generalize nameOk name = n3
    generalize nameOk tt = n4
    generalize isW a = n5
    generalize inR kind 1 9 = n6
    have ea : (a == 0) = decide (a = 0) := rfl
    have eb : (b == 0) = decide (b = 0) := rfl
    by_cases h7 : kind ≥ 7
    · have h6 : ¬ kind ≤ 6 := by omega
      have h2 : ¬ kind = 2 := by omega
      have h3 : ¬ kind = 3 := by omega
      have h4 : ¬ kind = 4 := by omega
      simp only [if_neg h6, if_pos h7, if_neg h2, if_neg h3, if_neg h4, h3, ea, eb, false_or, decide_eq_true_eq]
      by_cases h77 : kind = 7
      · simp only [if_pos h77]
        by_cases ha : a = 0 <;> by_cases hb' : b = 0 <;> simp only [ha, hb', if_true, if_false, decide_true, decide_false] <;> cases n1 <;> cases n2 <;> cases n5 <;> cases n6 <;> first | rfl | simp
      · simp only [if_neg h77]
        by_cases hb' : b = 0 <;> simp only [hb', if_true, if_false, decide_true, decide_false] <;> cases n1 <;> cases n2 <;> cases n5 <;> cases n6 <;> first | rfl | simp
    · have h6 : kind ≤ 6 := by omega
      have h77 : ¬ kind = 7 := by omega
      by_cases h2 : kind = 2 <;> by_cases h3 : kind = 3 <;> by_cases h4 : kind = 4 <;> simp only [h7, h6, h2, h3, h4, h77, ea, eb, if_true, if_false, or_true, or_false, decide_eq_true_eq] <;> first | (exfalso; omega) | skip
      all_goals by_cases ha : a = 0 <;> by_cases hb' : b = 0 <;> simp only [ha, hb', if_true, if_false, decide_true, decide_false] <;> cases n1 <;> cases n2 <;> cases n3 <;> cases n4 <;> cases n5 <;> cases n6 <;> first | rfl | simp
theorem spec_EntOk_eq (q kind : Int) (name tt : ByteArray) (a b : Int) (hn : name.size ≤ maxLen) (ht : tt.size ≤ maxLen) : F_spec_EntOk (q, kind, name, tt, a, b) = some (entOk q kind name tt a b) := by
  unfold F_spec_EntOk entOk
  simp only [Bool.cond_eq_ite, l1In_eq, spec_OpOk_eq _ _ _ _ _ hn ht, Option.bind_some]
  cases inR q 1 60000 <;> simp
theorem impl_EntOk_eq (q kind : Int) (name tt : ByteArray) (a b : Int) (hn : name.size ≤ maxLen) (ht : tt.size ≤ maxLen) : F_impl_EntOk (q, kind, name, tt, a, b) = some (entOk q kind name tt a b) := by
  unfold F_impl_EntOk entOk
  simp only [Bool.cond_eq_ite, within_eq, impl_OpOk_eq _ _ _ _ _ hn ht, Option.bind_some]
  cases inR q 1 60000 <;> simp
end Go.Proofs.Ytnjjkaanajifiaa.Pl

/- The checksum, copies and comparisons of bytes. No condition. -/
namespace Go.Proofs.Ytnjjkaanajifiaa.Pl
open Go.Proofs.Ytnjjkaanajifiaa.R Go.Proofs.Ytnjjkaanajifiaa.XV
set_option linter.unusedVariables false
set_option linter.unusedSimpArgs false

theorem rd_by (l : List Int) (i : Int) : rd_u8 l i = by_ l i := rfl
theorem drop_by (l : List Int) (i : Int) (h0 : 0 ≤ i) (h : i < l.length) : l.drop i.toNat = by_ l i :: l.drop (i.toNat + 1) := by
  have hn : i.toNat < l.length := by omega
  rw [List.drop_eq_getElem_cons hn]
  unfold by_
  rw [List.getD_eq_getElem?_getD, List.getElem?_eq_getElem hn]
  rfl
theorem fdiv2 (x : Int) : Int.fdiv x (2 ^ (min (Int.toNat (1 : Int)) (Go.IntKind.bits .i64))) = x / 2 := by
  show Int.fdiv x 2 = x / 2
  rw [Int.fdiv_eq_ediv_of_nonneg _ (by omega)]
theorem spec_crc_inner {R : Type} (l : List Int) (i : Int) (k : List Int × Int × Int → Option R) : ∀ x : Int, L_spec_Crc_7 k (l, x, i, 0) = k (l, crcBits 8 x, i) := by
  intro x
  unfold L_spec_Crc_7
  have key := loop_fuel (step := S_spec_Crc_7 k) (fun t : List Int × Int × Int × Int => 8 - t.2.2.2.toNat) (fun t => t.1 = l ∧ t.2.2.1 = i ∧ 0 ≤ t.2.2.2 ∧ t.2.2.2 ≤ 8) (fun t => k (l, crcBits (8 - t.2.2.2.toNat) t.2.1, i)) ?_ (l, x, i, 0) ⟨rfl, rfl, by simp, by simp⟩ (by simp)
  · simpa using key
  · rintro again ⟨l', x, i', j⟩ ⟨rfl, rfl, h0, h1⟩ hag
    simp only at h0 h1 ⊢
    unfold S_spec_Crc_7
    simp only [Bool.cond_eq_ite, decide_eq_true_eq, bi, and1, fdiv2]
    by_cases hj : j < 8
    · have hw : Go.IntKind.wrap .i64 (j + 1) = j + 1 := w64 (by omega) (by omega)
      obtain ⟨d, hd⟩ : ∃ d, 8 - j.toNat = d + 1 := ⟨7 - j.toNat, by omega⟩
      have hd' : 8 - (j + 1).toNat = d := by omega
      rw [if_pos hj, hw, hd, crcBits]
      unfold crcBit
      by_cases hx : x % 2 = 1
      · rw [if_pos hx, if_pos hx]
        have := hag (l', bits .xor .i64 (x / 2) 2197175160, i', j + 1) ⟨rfl, rfl, by simp only; omega, by simp only; omega⟩ (by simp only; omega)
        rw [this]
        simp only [hd']
      · rw [if_neg hx, if_neg hx]
        have := hag (l', x / 2, i', j + 1) ⟨rfl, rfl, by simp only; omega, by simp only; omega⟩ (by simp only; omega)
        rw [this]
        simp only [hd']
    · have : j = 8 := by omega
      subst this
      simp [crcBits]
theorem w64_by {l : List Int} (h : isBytes l) (i : Int) : Go.IntKind.wrap .i64 (by_ l i) = by_ l i := by
  have := by_range h i
  exact w64 (by omega) (by omega)
theorem spec_Crc_eq (l : List Int) (hb : isBytes l) (hl : l.length ≤ 1099511627776) : F_spec_Crc l = some (crc l) := by
  unfold F_spec_Crc L_spec_Crc_3
  rw [loop_fuel (fun t : List Int × Int × Int => t.1.length - t.2.2.toNat) (fun t => t.1 = l ∧ 0 ≤ t.2.2 ∧ t.2.2 ≤ l.length) (fun t => some (bits .xor .i64 ((l.drop t.2.2.toNat).foldl crcStep t.2.1) 4294967295)) ?_ (l, 4294967295, 0) ⟨rfl, by simp, by simp⟩ (by simp; omega)]
  · rfl
  · rintro again ⟨l', x, i⟩ ⟨rfl, h0, h1⟩ hag
    simp only at h0 h1 hl hb ⊢
    unfold S_spec_Crc_3
    simp only [Bool.cond_eq_ite, decide_eq_true_eq, rd_by, w64_by hb]
    by_cases hi : i < (l'.length : Int)
    · have hw : Go.IntKind.wrap .i64 (i + 1) = i + 1 := w64 (by omega) (by omega)
      rw [if_pos hi, if_pos h0, if_pos hi, spec_crc_inner]
      simp only [hw]
      rw [hag (l', crcBits 8 (bits .xor .i64 x (by_ l' i)), i + 1) ⟨rfl, by simp only; omega, by simp only; omega⟩ (by simp only; omega), drop_by l' i h0 hi]
      have e1 : (i + 1).toNat = i.toNat + 1 := by omega
      simp only [e1, List.foldl_cons, crcStep]
    · rw [if_neg hi, List.drop_of_length_le (by omega)]
      rfl
theorem tdiv2 (x : Int) (h : 0 ≤ x) : Int.tdiv x 2 = x / 2 := Int.tdiv_eq_ediv_of_nonneg h
theorem tmod2 (x : Int) (h : 0 ≤ x) : Int.tmod x 2 = x % 2 := Int.tmod_eq_emod_of_nonneg h
theorem impl_crc_inner {R : Type} (l : List Int) (n i : Int) (k : Int × List Int × Int × Int → Option R) : ∀ x : Int, 0 ≤ x → x < 4294967296 → L_impl_Crc_7 k (x, l, n, i, 0) = k (crcBits 8 x, l, n, i) := by
  intro x hx0 hx1
  unfold L_impl_Crc_7
  have key := loop_fuel (step := S_impl_Crc_7 k) (fun t : Int × List Int × Int × Int × Int => 8 - t.2.2.2.2.toNat) (fun t => t.2.1 = l ∧ t.2.2.1 = n ∧ t.2.2.2.1 = i ∧ 0 ≤ t.2.2.2.2 ∧ t.2.2.2.2 ≤ 8 ∧ 0 ≤ t.1 ∧ t.1 < 4294967296) (fun t => k (crcBits (8 - t.2.2.2.2.toNat) t.1, l, n, i)) ?_ (x, l, n, i, 0) ⟨rfl, rfl, rfl, by simp, by simp, hx0, hx1⟩ (by simp)
  · simpa using key
  · rintro again ⟨x, l', n', i', j⟩ ⟨rfl, rfl, rfl, h0, h1, hx0, hx1⟩ hag
    simp only at h0 h1 hx0 hx1 ⊢
    unfold S_impl_Crc_7
    simp only [Bool.cond_eq_ite, decide_eq_true_eq, bi, tmod2 x hx0, tdiv2 x hx0, w64 (n := x / 2) (by omega) (by omega)]
    by_cases hj : j < 8
    · have hw : Go.IntKind.wrap .i64 (j + 1) = j + 1 := w64 (by omega) (by omega)
      obtain ⟨d, hd⟩ : ∃ d, 8 - j.toNat = d + 1 := ⟨7 - j.toNat, by omega⟩
      have hd' : 8 - (j + 1).toNat = d := by omega
      have hr := crcBit_range x hx0 hx1
      rw [if_pos hj, hw, hd, crcBits]
      unfold crcBit at hr ⊢
      by_cases hx : x % 2 = 1
      · rw [if_pos hx] at hr ⊢
        rw [if_pos hx]
        have := hag (bits .xor .i64 (x / 2) 2197175160, l', n', i', j + 1) ⟨rfl, rfl, rfl, by simp only; omega, by simp only; omega, hr.1, hr.2⟩ (by simp only; omega)
        rw [this]
        simp only [hd']
      · rw [if_neg hx] at hr ⊢
        rw [if_neg hx]
        have := hag (x / 2, l', n', i', j + 1) ⟨rfl, rfl, rfl, by simp only; omega, by simp only; omega, hr.1, hr.2⟩ (by simp only; omega)
        rw [this]
        simp only [hd']
    · have : j = 8 := by omega
      subst this
      simp [crcBits]
theorem impl_Crc_eq (l : List Int) (hb : isBytes l) (hl : l.length ≤ 1099511627776) : F_impl_Crc l = some (crc l) := by
  unfold F_impl_Crc L_impl_Crc_3
  rw [loop_fuel (fun t : Int × List Int × Int × Int => t.2.1.length - t.2.2.2.toNat) (fun t => t.2.1 = l ∧ t.2.2.1 = l.length ∧ 0 ≤ t.2.2.2 ∧ t.2.2.2 ≤ l.length ∧ 0 ≤ t.1 ∧ t.1 < 4294967296) (fun t => some (bits .xor .i64 ((l.drop t.2.2.2.toNat).foldl crcStep t.1) 4294967295)) ?_ (4294967295, l, l.length, 0) ⟨rfl, rfl, by simp, by simp, by simp, by simp⟩ (by simp; omega)]
  · rfl
  · rintro again ⟨x, l', n, i⟩ ⟨rfl, hn, h0, h1, hx0, hx1⟩ hag
    simp only at hn h0 h1 hx0 hx1 hl hb ⊢
    subst hn
    unfold S_impl_Crc_3
    simp only [Bool.cond_eq_ite, decide_eq_true_eq, rd_by, w64_by hb]
    by_cases hi : i < (l'.length : Int)
    · have hw : Go.IntKind.wrap .i64 (i + 1) = i + 1 := w64 (by omega) (by omega)
      have hbr := by_range hb i
      have hxr := xor_range x (by_ l' i) hx0 hx1 hbr.1 (by omega)
      have hsr := crcStep_range x (by_ l' i) hx0 hx1 hbr.1 hbr.2
      rw [if_pos hi, if_pos h0, if_pos hi, impl_crc_inner _ _ _ _ _ hxr.1 hxr.2]
      simp only [hw]
      rw [hag (crcBits 8 (bits .xor .i64 x (by_ l' i)), l', l'.length, i + 1) ⟨rfl, rfl, by simp only; omega, by simp only; omega, hsr.1, hsr.2⟩ (by simp only; omega), drop_by l' i h0 hi]
      have e1 : (i + 1).toNat = i.toNat + 1 := by omega
      simp only [e1, List.foldl_cons, crcStep]
    · rw [if_neg hi, List.drop_of_length_le (by omega)]
      rfl

/-! ### Copies -/
theorem toByteS_eq (l : List Int) (hl : l.length ≤ 1099511627776) : F_laws_toByteS l = some l := by
  unfold F_laws_toByteS L_laws_toByteS_3
  rw [if_pos (by omega), if_pos (Int.le_refl _), if_pos (by simp; omega)]
  rw [loop_fuel (fun t : List Int × Int × List Int => t.1.length - t.2.1.toNat) (fun t => t.1 = l ∧ 0 ≤ t.2.1 ∧ t.2.1 ≤ l.length ∧ t.2.2.length = l.length) (fun t => some (t.2.2.take t.2.1.toNat ++ l.drop t.2.1.toNat)) ?_ (l, 0, _) ⟨rfl, by simp, by simp, by simp⟩ (by simp; omega)]
  · simp
  · rintro again ⟨l', i, o⟩ ⟨rfl, h0, h1, hlen⟩ hag
    simp only at h0 h1 hlen hl ⊢
    unfold S_laws_toByteS_3
    simp only [Bool.cond_eq_ite, decide_eq_true_eq, rd_by]
    by_cases hi : i < (l'.length : Int)
    · have hw : Go.IntKind.wrap .i64 (i + 1) = i + 1 := w64 (by omega) (by omega)
      rw [if_pos hi, if_pos h0, if_pos hi, if_pos h0, if_pos (by rw [hlen]; exact hi), hw]
      rw [hag (l', i + 1, o.set i.toNat (by_ l' i)) ⟨rfl, by simp only; omega, by simp only; omega, by simpa using hlen⟩ (by simp only; omega), drop_by l' i h0 hi]
      have e1 : (i + 1).toNat = i.toNat + 1 := by omega
      have hn : i.toNat < o.length := by omega
      simp only [e1]
      rw [List.take_succ_eq_append_getElem (by simpa using hn), List.take_set_of_le (Nat.le_refl _)]
      simp
    · have : i.toNat = l'.length := by omega
      rw [if_neg hi, List.drop_of_length_le (by omega), List.take_of_length_le (by omega)]
      simp
theorem eqByteS_refl (l : List Int) (hl : l.length ≤ 1099511627776) : F_laws_eqByteS (l, l) = some true := by
  unfold F_laws_eqByteS L_laws_eqByteS_4
  simp only [bne_self_eq_false, cond_false]
  rw [loop_fuel (fun t : List Int × List Int × Int => t.1.length - t.2.2.toNat) (fun t => t.1 = l ∧ t.2.1 = l ∧ 0 ≤ t.2.2 ∧ t.2.2 ≤ l.length) (fun _ => some true) ?_ (l, l, 0) ⟨rfl, rfl, by simp, by simp⟩ (by simp; omega)]
  rintro again ⟨a, b, i⟩ ⟨h1, h2, h0, h3⟩ hag
  simp only at h1 h2 h0 h3 ⊢
  subst h1 h2
  unfold S_laws_eqByteS_4
  simp only [Bool.cond_eq_ite, decide_eq_true_eq]
  by_cases hi : i < (b.length : Int)
  · have hw : Go.IntKind.wrap .i64 (i + 1) = i + 1 := w64 (by omega) (by omega)
    rw [if_pos hi, if_pos h0, if_pos hi, if_pos h0, if_pos hi, hw, hag (b, b, i + 1) ⟨rfl, rfl, by simp only; omega, by simp only; omega⟩ (by simp only; omega)]
    simp
  · rw [if_neg hi]
end Go.Proofs.Ytnjjkaanajifiaa.Pl

/- Words out of bytes. No condition. -/
namespace Go.Proofs.Ytnjjkaanajifiaa.Pl
open Go.Proofs.Ytnjjkaanajifiaa.R Go.Proofs.Ytnjjkaanajifiaa.XV
set_option linter.unusedVariables false
set_option linter.unusedSimpArgs false

def w2 (l : List Int) (i : Int) : Int := by_ l i * 256 + by_ l (i + 1)
def getW (l : List Int) (i : Int) : Int × Int × Bool := if 0 ≤ i ∧ i + 2 ≤ l.length then (w2 l i, i + 2, true) else (0, 0, false)
theorem w2_range {l : List Int} (h : isBytes l) (i : Int) : 0 ≤ w2 l i ∧ w2 l i ≤ 65535 := by
  have h1 := by_range h i
  have h2 := by_range h (i + 1)
  unfold w2
  omega
theorem join8 (a b : Int) (h0 : 0 ≤ a) (h1 : a < 256) (hb0 : 0 ≤ b) (hb1 : b < 256) : bits .or .i64 (Go.IntKind.wrap .i64 (a * 2 ^ (min (Int.toNat (8 : Int)) (Go.IntKind.bits .i64)))) b = a * 256 + b := by
  show bits .or .i64 (Go.IntKind.wrap .i64 (a * 256)) b = a * 256 + b
  rw [w64 (by omega) (by omega)]
  exact or_join 8 (by omega) a b h0 (by show a * 256 < _; omega) hb0 hb1
theorem spec_GetW_eq (l : List Int) (i : Int) (hb : isBytes l) (hl : l.length ≤ 1099511627776) (h0 : -1099511627776 ≤ i) (h1 : i ≤ 4398046511104) : F_spec_GetW (l, i) = some (getW l i) := by
  unfold F_spec_GetW getW
  simp only [l1In_eq, Option.bind_some, Bool.cond_eq_ite, rd_by, w64_by hb]
  rw [w64 (n := (l.length : Int) - 2) (by omega) (by omega), w64 (n := i + 1) (by omega) (by omega), w64 (n := i + 2) (by omega) (by omega)]
  by_cases h : 0 ≤ i ∧ i + 2 ≤ l.length
  · have hin : inR i 0 ((l.length : Int) - 2) = true := inR_iff.2 ⟨h.1, by omega⟩
    have r1 := by_range hb i
    have r2 := by_range hb (i + 1)
    rw [hin, if_pos h, if_neg (by simp), if_pos h.1, if_pos (by omega), if_pos (by omega), if_pos (by omega), join8 _ _ r1.1 r1.2 r2.1 r2.2]
    rfl
  · have hin : inR i 0 ((l.length : Int) - 2) = false := by
      cases hc : inR i 0 ((l.length : Int) - 2) with
      | false => rfl
      | true =>
        have := inR_iff.1 hc
        exact absurd ⟨this.1, by omega⟩ h
    rw [hin, if_neg h]
    rfl
theorem impl_GetW_eq (l : List Int) (i : Int) (hb : isBytes l) (hl : l.length ≤ 1099511627776) (h0 : -1099511627776 ≤ i) (h1 : i ≤ 4398046511104) : F_impl_GetW (l, i) = some (getW l i) := by
  unfold F_impl_GetW getW
  simp only [Option.bind_some, Bool.cond_eq_ite, rd_by, w64_by hb, decide_eq_true_eq]
  rw [w64 (n := (l.length : Int) - 2) (by omega) (by omega), w64 (n := i + 1) (by omega) (by omega), w64 (n := i + 2) (by omega) (by omega)]
  by_cases h : 0 ≤ i ∧ i + 2 ≤ l.length
  · have r1 := by_range hb i
    have r2 := by_range hb (i + 1)
    rw [if_pos h, if_neg (by omega), Option.bind_some, if_neg (by simp; omega), if_pos h.1, if_pos (by omega), if_pos (by omega), if_pos (by omega), join8 _ _ r1.1 r1.2 r2.1 r2.2]
    rfl
  · rw [if_neg h]
    by_cases h2 : i < 0
    · rw [if_pos h2, Option.bind_some, if_pos rfl]
    · rw [if_neg h2, Option.bind_some, if_pos (by simp; omega)]
/-! ### The reader -/
theorem one_eq (l : List Int) (i : Int) (bad : Bool) (hb : isBytes l) (hl : l.length ≤ 1099511627776) (h0 : 0 ≤ i) (h1 : i ≤ 2199023255552) : F_impl_reader_one (l, i, bad) = some (if bad = false ∧ i < l.length then (by_ l i, l, i + 1, false) else (0, l, i, true)) := by
  unfold F_impl_reader_one
  simp only [Bool.cond_eq_ite, decide_eq_true_eq, rd_by, w64_by hb]
  rw [w64 (n := i + 1) (by omega) (by omega), show i + 1 - 1 = i by omega, w64 (n := i) (by omega) (by omega)]
  cases bad with
  | true => simp
  | false =>
    by_cases h : i < l.length
    · simp [h, h0, show ¬ i < 0 by omega, show ¬ (l.length : Int) ≤ i by omega, w64_by hb]
    · simp [h, show ¬ i < 0 by omega, show (l.length : Int) ≤ i by omega]
theorem word_eq (l : List Int) (i : Int) (bad : Bool) (hb : isBytes l) (hl : l.length ≤ 1099511627776) (h0 : 0 ≤ i) (h1 : i ≤ 2199023255552) : F_impl_reader_word (l, i, bad) = some (if bad = false ∧ i + 2 ≤ l.length then (w2 l i, l, i + 2, false) else (0, l, i, true)) := by
  unfold F_impl_reader_word
  simp only [impl_GetW_eq l i hb hl (by omega) (by omega), Option.bind_some, Bool.cond_eq_ite]
  cases bad with
  | true => simp
  | false =>
    by_cases h : i + 2 ≤ l.length
    · have eW : getW l i = (w2 l i, i + 2, true) := if_pos ⟨h0, h⟩
      rw [eW]
      simp [h]
    · have eW : getW l i = (0, 0, false) := if_neg (by rintro ⟨_, h2⟩; exact h h2)
      rw [eW]
      simp [h]
theorem done_eq (l : List Int) (i : Int) (bad : Bool) : F_impl_reader_done (l, i, bad) = some (!bad && (i == (l.length : Int)), l, i, bad) := by
  unfold F_impl_reader_done
  cases bad <;> simp
theorem word_bad (l : List Int) (a : Int) (hb : isBytes l) (hl : l.length ≤ 1099511627776) (h0 : 0 ≤ a) (h1 : a ≤ 2199023255552) : F_impl_reader_word (l, a, true) = some (0, l, a, true) := by
  rw [word_eq l a true hb hl h0 h1]
  simp
theorem one_bad (l : List Int) (a : Int) (hb : isBytes l) (hl : l.length ≤ 1099511627776) (h0 : 0 ≤ a) (h1 : a ≤ 2199023255552) : F_impl_reader_one (l, a, true) = some (0, l, a, true) := by
  rw [one_eq l a true hb hl h0 h1]
  simp
end Go.Proofs.Ytnjjkaanajifiaa.Pl

/- Texts out of bytes. No condition. -/
namespace Go.Proofs.Ytnjjkaanajifiaa.Pl
open Go.Proofs.Ytnjjkaanajifiaa.R Go.Proofs.Ytnjjkaanajifiaa.XV
set_option linter.unusedVariables false
set_option linter.unusedSimpArgs false

def noB : ByteArray := ⟨#[]⟩
def getT (l : List Int) (i : Int) : ByteArray × Int × Bool := if 0 ≤ i ∧ i + 2 ≤ l.length ∧ w2 l i ≤ 60 ∧ i + 2 + w2 l i ≤ l.length then (textOf ((l.take (i + 2 + w2 l i).toNat).drop (i + 2).toNat), i + 2 + w2 l i, true) else (noB, 0, false)
theorem getT_size (l : List Int) (i : Int) (hb : isBytes l) : (getT l i).1.size ≤ 60 := by
  unfold getT
  split
  · rename_i h
    have := w2_range hb i
    show (textOf _).data.size ≤ 60
    unfold textOf
    simp
    omega
  · show noB.data.size ≤ 60
    simp [noB]
theorem getT_next (l : List Int) (i : Int) (hb : isBytes l) : 0 ≤ (getT l i).2.1 ∧ (getT l i).2.1 ≤ l.length := by
  unfold getT
  split
  · rename_i h
    have := w2_range hb i
    simp only
    omega
  · simp only
    omega
theorem text_core {F : List Int × Int → Option (ByteArray × Int × Bool)} (l : List Int) (i : Int) (hb : isBytes l) (hl : l.length ≤ 1099511627776) (h0 : -1099511627776 ≤ i) (h1 : i ≤ 4398046511104)
    (hF : F (l, i) = Option.bind (some (getW l i)) fun r1 => Option.bind (bif (!r1.2.2) then some true else some (decide (r1.1 > (60 : Int)))) fun u2 => Option.bind (bif u2 then some true else some (decide (r1.1 > (Go.IntKind.wrap .i64 (((List.length l : Nat) : Int) - r1.2.1))))) fun u3 => bif u3 then some ({ data := #[] }, (0 : Int), false) else if (0 : Int) ≤ r1.2.1 then if r1.2.1 ≤ (Go.IntKind.wrap .i64 (r1.2.1 + r1.1)) then if (Go.IntKind.wrap .i64 (r1.2.1 + r1.1)) ≤ ((List.length l : Nat) : Int) then some ((textOf (List.drop (Int.toNat r1.2.1) (List.take (Int.toNat (Go.IntKind.wrap .i64 (r1.2.1 + r1.1))) l))), (Go.IntKind.wrap .i64 (r1.2.1 + r1.1)), true) else none else none else none) :
    F (l, i) = some (getT l i) := by
  rw [hF, Option.bind_some]
  have hr := w2_range hb i
  by_cases h : 0 ≤ i ∧ i + 2 ≤ l.length
  · have eW : getW l i = (w2 l i, i + 2, true) := if_pos h
    rw [eW]
    simp only [Bool.cond_eq_ite, decide_eq_true_eq]
    rw [w64 (n := (l.length : Int) - (i + 2)) (by omega) (by omega), w64 (n := i + 2 + w2 l i) (by omega) (by omega), if_neg (by simp), Option.bind_some]
    by_cases h60 : w2 l i ≤ 60
    · rw [if_neg (by simp; omega), Option.bind_some]
      by_cases hf : i + 2 + w2 l i ≤ l.length
      · have eT : getT l i = (textOf ((l.take (i + 2 + w2 l i).toNat).drop (i + 2).toNat), i + 2 + w2 l i, true) := if_pos ⟨h.1, h.2, h60, hf⟩
        rw [if_neg (by simp; omega), if_pos (by omega), if_pos (by omega), if_pos hf, eT]
      · have eT : getT l i = (noB, 0, false) := if_neg (by rintro ⟨_, _, _, h4⟩; exact hf h4)
        rw [if_pos (by simp; omega), eT]
        rfl
    · have eT : getT l i = (noB, 0, false) := if_neg (by rintro ⟨_, _, h4, _⟩; exact h60 h4)
      rw [if_pos (by simp; omega), Option.bind_some, eT]
      rfl
  · have eW : getW l i = (0, 0, false) := if_neg h
    have eT : getT l i = (noB, 0, false) := if_neg (by rintro ⟨h2, h3, _⟩; exact h ⟨h2, h3⟩)
    rw [eW, eT]
    rfl
theorem spec_GetText_eq (l : List Int) (i : Int) (hb : isBytes l) (hl : l.length ≤ 1099511627776) (h0 : -1099511627776 ≤ i) (h1 : i ≤ 4398046511104) : F_spec_GetText (l, i) = some (getT l i) :=
  text_core (F := F_spec_GetText) l i hb hl h0 h1 (by unfold F_spec_GetText; rw [spec_GetW_eq l i hb hl h0 h1])
theorem impl_GetText_eq (l : List Int) (i : Int) (hb : isBytes l) (hl : l.length ≤ 1099511627776) (h0 : -1099511627776 ≤ i) (h1 : i ≤ 4398046511104) : F_impl_GetText (l, i) = some (getT l i) :=
  text_core (F := F_impl_GetText) l i hb hl h0 h1 (by unfold F_impl_GetText; rw [impl_GetW_eq l i hb hl h0 h1])

theorem text_eq (l : List Int) (i : Int) (bad : Bool) (hb : isBytes l) (hl : l.length ≤ 1099511627776) (h0 : 0 ≤ i) (h1 : i ≤ 2199023255552) : F_impl_reader_text (l, i, bad) = some (if bad = false ∧ (getT l i).2.2 = true then ((getT l i).1, l, (getT l i).2.1, false) else (noB, l, i, true)) := by
  unfold F_impl_reader_text
  simp only [impl_GetText_eq l i hb hl (by omega) (by omega), Option.bind_some, Bool.cond_eq_ite]
  cases bad with
  | true =>
    simp
    rfl
  | false =>
    cases h : (getT l i).2.2 with
    | true => simp [h]
    | false =>
      simp [h]
      rfl
end Go.Proofs.Ytnjjkaanajifiaa.Pl

/- Four bytes. No condition. -/
namespace Go.Proofs.Ytnjjkaanajifiaa.Pl
open Go.Proofs.Ytnjjkaanajifiaa.R Go.Proofs.Ytnjjkaanajifiaa.XV
set_option linter.unusedVariables false
set_option linter.unusedSimpArgs false

def get4 (l : List Int) (i : Int) : Int := by_ l i * 16777216 + by_ l (i + 1) * 65536 + by_ l (i + 2) * 256 + by_ l (i + 3)
theorem sh8 : (2 : Int) ^ (min (Int.toNat (8 : Int)) (Go.IntKind.bits .i64)) = 256 := by decide
theorem sh16 : (2 : Int) ^ (min (Int.toNat (16 : Int)) (Go.IntKind.bits .i64)) = 65536 := by decide
theorem sh24 : (2 : Int) ^ (min (Int.toNat (24 : Int)) (Go.IntKind.bits .i64)) = 16777216 := by decide
theorem or8 (a b : Int) (h0 : 0 ≤ a) (h1 : a < 4294967296) (hb0 : 0 ≤ b) (hb1 : b < 256) : bits .or .i64 (a * 256) b = a * 256 + b := or_join 8 (by omega) a b h0 (by show a * 256 < _; omega) hb0 hb1
theorem or16 (a b : Int) (h0 : 0 ≤ a) (h1 : a < 4294967296) (hb0 : 0 ≤ b) (hb1 : b < 65536) : bits .or .i64 (a * 65536) b = a * 65536 + b := or_join 16 (by omega) a b h0 (by show a * 65536 < _; omega) hb0 hb1
theorem or24 (a b : Int) (h0 : 0 ≤ a) (h1 : a < 4294967296) (hb0 : 0 ≤ b) (hb1 : b < 16777216) : bits .or .i64 (a * 16777216) b = a * 16777216 + b := or_join 24 (by omega) a b h0 (by show a * 16777216 < _; omega) hb0 hb1
theorem l17Get_eq (l : List Int) (i : Int) (hb : isBytes l) (hl : l.length ≤ 1099511627776) (h0 : 0 ≤ i) (h1 : i + 4 ≤ l.length) : F_spec_l17Get (l, i) = some (get4 l i) := by
  have r0 := by_range hb i
  have r1 := by_range hb (i + 1)
  have r2 := by_range hb (i + 2)
  have r3 := by_range hb (i + 3)
  unfold F_spec_l17Get get4
  simp only [rd_by, w64_by hb]
  rw [w64 (n := i + 1) (by omega) (by omega), w64 (n := i + 2) (by omega) (by omega), w64 (n := i + 3) (by omega) (by omega), if_pos h0, if_pos (by omega), if_pos (by omega), if_pos (by omega), if_pos (by omega), if_pos (by omega), if_pos (by omega), if_pos (by omega), sh8, sh16, sh24,
    w64 (n := by_ l i * 16777216) (by omega) (by omega), w64 (n := by_ l (i + 1) * 65536) (by omega) (by omega), w64 (n := by_ l (i + 2) * 256) (by omega) (by omega)]
  rw [or24 _ _ r0.1 (by omega) (by omega) (by omega), show by_ l i * 16777216 + by_ l (i + 1) * 65536 = (by_ l i * 256 + by_ l (i + 1)) * 65536 by omega, or16 _ _ (by omega) (by omega) (by omega) (by omega),
    show (by_ l i * 256 + by_ l (i + 1)) * 65536 + by_ l (i + 2) * 256 = ((by_ l i * 256 + by_ l (i + 1)) * 256 + by_ l (i + 2)) * 256 by omega, or8 _ _ (by omega) (by omega) r3.1 r3.2]
theorem four_eq (l : List Int) (i : Int) (hb : isBytes l) (hl : l.length ≤ 1099511627776) (h0 : 0 ≤ i) (h1 : i + 4 ≤ l.length) : F_impl_reader_four (l, i, false) = some (get4 l i, l, i + 4, false) := by
  have ra := w2_range hb i
  have rb := w2_range hb (i + 2)
  unfold F_impl_reader_four
  rw [word_eq l i false hb hl h0 (by omega), if_pos ⟨rfl, by omega⟩]
  simp only [Option.bind_some]
  rw [word_eq l (i + 2) false hb hl (by omega) (by omega), if_pos ⟨rfl, by omega⟩]
  simp only [Option.bind_some]
  rw [sh16, w64 (n := w2 l i * 65536) (by omega) (by omega), or16 _ _ ra.1 (by omega) rb.1 (by omega), show i + 2 + 2 = i + 4 by omega]
  have : w2 l i * 65536 + w2 l (i + 2) = get4 l i := by
    unfold w2 get4
    rw [show i + 2 + 1 = i + 3 by omega]
    omega
  rw [this]
theorem four_bad (l : List Int) (i : Int) (bad : Bool) (hb : isBytes l) (hl : l.length ≤ 1099511627776) (h0 : 0 ≤ i) (h2 : i ≤ 1099511627777) (h1 : bad = false → (l.length : Int) < i + 4) : ∃ v a, F_impl_reader_four (l, i, bad) = some (v, l, a, true) := by
  have hbad : ∀ a : Int, 0 ≤ a → a ≤ 2199023255552 → F_impl_reader_word (l, a, true) = some (0, l, a, true) := fun a ha hb' => word_bad l a hb hl ha hb'
  unfold F_impl_reader_four
  cases bad with
  | true =>
    rw [hbad i h0 (by omega)]
    simp only [Option.bind_some]
    rw [hbad i h0 (by omega)]
    exact ⟨_, _, rfl⟩
  | false =>
    rw [word_eq l i false hb hl h0 (by omega)]
    have := h1 rfl
    by_cases h : i + 2 ≤ l.length
    · rw [if_pos ⟨rfl, h⟩]
      simp only [Option.bind_some]
      rw [word_eq l (i + 2) false hb hl (by omega) (by omega), if_neg (by rintro ⟨_, h3⟩; omega)]
      exact ⟨_, _, rfl⟩
    · rw [if_neg (by rintro ⟨_, h3⟩; exact h h3)]
      simp only [Option.bind_some]
      rw [hbad i h0 (by omega)]
      exact ⟨_, _, rfl⟩

end Go.Proofs.Ytnjjkaanajifiaa.Pl

/- What is drawn: the cursor's steps never fail. No condition. -/
namespace Go.Proofs.Ytnjjkaanajifiaa.Pl
open Go.Proofs.Ytnjjkaanajifiaa.R Go.Proofs.Ytnjjkaanajifiaa.XV
set_option linter.unusedVariables false
set_option linter.unusedSimpArgs false

/-- A cursor's place. -/
def curOk (c : List Int) (p : Int) : Prop := c.length ≤ 1099511627776 ∧ 0 ≤ p ∧ p ≤ c.length
/-- A step: it gives something, the code stays, the place stays right. -/
def gives {A : Type} (o : Option (A × List Int × Int × Int)) (c : List Int) (Q : A → Prop) : Prop := ∃ v p s, o = some (v, c, p, s) ∧ curOk c p ∧ Q v
end Go.Proofs.Ytnjjkaanajifiaa.Pl

/- One byte changed: the checksum is another. No condition. -/
namespace Go.Proofs.Ytnjjkaanajifiaa.Pl
open Go.Proofs.Ytnjjkaanajifiaa.R Go.Proofs.Ytnjjkaanajifiaa.XV
set_option linter.unusedVariables false
set_option linter.unusedSimpArgs false

theorem xor_cast (x y : Int) (hx0 : 0 ≤ x) (hx1 : x < 4294967296) (hy0 : 0 ≤ y) (hy1 : y < 4294967296) : bits .xor .i64 x y = ((x.toNat ^^^ y.toNat : Nat) : Int) := by
  have := xor_nat x.toNat y.toNat (by omega) (by omega)
  rwa [Int.toNat_of_nonneg hx0, Int.toNat_of_nonneg hy0] at this
theorem xor_inj_l {x y b : Int} (hx0 : 0 ≤ x) (hx1 : x < 4294967296) (hy0 : 0 ≤ y) (hy1 : y < 4294967296) (hb0 : 0 ≤ b) (hb1 : b < 4294967296) (h : bits .xor .i64 x b = bits .xor .i64 y b) : x = y := by
  rw [xor_cast x b hx0 hx1 hb0 hb1, xor_cast y b hy0 hy1 hb0 hb1] at h
  have h1 : x.toNat ^^^ b.toNat = y.toNat ^^^ b.toNat := by exact_mod_cast h
  have h2 := congrArg (· ^^^ b.toNat) h1
  simp only [Nat.xor_assoc, Nat.xor_self, Nat.xor_zero] at h2
  omega
theorem xor_comm' {x y : Int} (hx0 : 0 ≤ x) (hx1 : x < 4294967296) (hy0 : 0 ≤ y) (hy1 : y < 4294967296) : bits .xor .i64 x y = bits .xor .i64 y x := by
  rw [xor_cast x y hx0 hx1 hy0 hy1, xor_cast y x hy0 hy1 hx0 hx1, Nat.xor_comm]
theorem xor_top {x : Int} (h0 : 0 ≤ x) (h1 : x < 2147483648) : 2147483648 ≤ bits .xor .i64 x 2197175160 := by
  rw [xor_cast x _ h0 (by omega) (by omega) (by omega)]
  have ht : (x.toNat ^^^ (2197175160 : Int).toNat).testBit 31 = true := by
    rw [Nat.testBit_xor, Nat.testBit_lt_two_pow (show x.toNat < 2 ^ 31 by omega)]
    decide
  have := Nat.ge_two_pow_of_testBit ht
  omega
theorem crcBit_inj {x y : Int} (hx0 : 0 ≤ x) (hx1 : x < 4294967296) (hy0 : 0 ≤ y) (hy1 : y < 4294967296) (h : crcBit x = crcBit y) : x = y := by
  unfold crcBit at h
  have tx := xor_top (x := x / 2) (by omega) (by omega)
  have ty := xor_top (x := y / 2) (by omega) (by omega)
  by_cases hx : x % 2 = 1
  · by_cases hy : y % 2 = 1
    · rw [if_pos hx, if_pos hy] at h
      have := xor_inj_l (x := x / 2) (y := y / 2) (by omega) (by omega) (by omega) (by omega) (by omega) (by omega) h
      omega
    · rw [if_pos hx, if_neg hy] at h
      omega
  · by_cases hy : y % 2 = 1
    · rw [if_neg hx, if_pos hy] at h
      omega
    · rw [if_neg hx, if_neg hy] at h
      omega
theorem crcBits_inj : ∀ (n : Nat) {x y : Int}, 0 ≤ x → x < 4294967296 → 0 ≤ y → y < 4294967296 → crcBits n x = crcBits n y → x = y
  | 0, x, y, _, _, _, _, h => h
  | n + 1, x, y, a, b, c, d, h => by
    have rx := crcBit_range x a b
    have ry := crcBit_range y c d
    exact crcBit_inj a b c d (crcBits_inj n rx.1 rx.2 ry.1 ry.2 h)
theorem crcStep_inj {x y b b' : Int} (hx0 : 0 ≤ x) (hx1 : x < 4294967296) (hy0 : 0 ≤ y) (hy1 : y < 4294967296) (hb0 : 0 ≤ b) (hb1 : b < 256) (hc0 : 0 ≤ b') (hc1 : b' < 256) (h : crcStep x b = crcStep y b') : bits .xor .i64 x b = bits .xor .i64 y b' := by
  unfold crcStep at h
  have r1 := xor_range x b hx0 hx1 hb0 (by omega)
  have r2 := xor_range y b' hy0 hy1 hc0 (by omega)
  exact crcBits_inj 8 r1.1 r1.2 r2.1 r2.2 h
theorem crcFold_range : ∀ (l : List Int) (x : Int), isBytes l → 0 ≤ x → x < 4294967296 → 0 ≤ l.foldl crcStep x ∧ l.foldl crcStep x < 4294967296
  | [], x, _, h0, h1 => ⟨h0, h1⟩
  | b :: l, x, hb, h0, h1 => by
    have hb' := hb b (by simp)
    have r := crcStep_range x b h0 h1 hb'.1 hb'.2
    exact crcFold_range l _ (fun y hy => hb y (by simp [hy])) r.1 r.2
theorem crcFold_inj : ∀ (l : List Int) {x y : Int}, isBytes l → 0 ≤ x → x < 4294967296 → 0 ≤ y → y < 4294967296 → l.foldl crcStep x = l.foldl crcStep y → x = y
  | [], x, y, _, _, _, _, _, h => h
  | b :: l, x, y, hb, a0, a1, c0, c1, h => by
    have hb' := hb b (by simp)
    have r1 := crcStep_range x b a0 a1 hb'.1 hb'.2
    have r2 := crcStep_range y b c0 c1 hb'.1 hb'.2
    have := crcFold_inj l (fun y hy => hb y (by simp [hy])) r1.1 r1.2 r2.1 r2.2 h
    exact xor_inj_l a0 a1 c0 c1 hb'.1 (by omega) (crcStep_inj a0 a1 c0 c1 hb'.1 hb'.2 hb'.1 hb'.2 this)
theorem crcFold_set : ∀ (l : List Int) (i : Nat) (v x : Int), isBytes l → i < l.length → 0 ≤ v → v < 256 → 0 ≤ x → x < 4294967296 → (l.set i v).foldl crcStep x = l.foldl crcStep x → l.getD i 0 = v
  | b :: l, 0, v, x, hb, _, v0, v1, x0, x1, h => by
    have hb' := hb b (by simp)
    have r1 := crcStep_range x b x0 x1 hb'.1 hb'.2
    have r2 := crcStep_range x v x0 x1 v0 v1
    have h1 : crcStep x v = crcStep x b := crcFold_inj l (fun y hy => hb y (by simp [hy])) r2.1 r2.2 r1.1 r1.2 h
    have h2 := crcStep_inj x0 x1 x0 x1 v0 v1 hb'.1 hb'.2 h1
    rw [xor_comm' x0 x1 v0 (by omega), xor_comm' x0 x1 hb'.1 (by omega)] at h2
    exact (xor_inj_l v0 (by omega) hb'.1 (by omega) x0 x1 h2).symm
  | b :: l, i + 1, v, x, hb, hi, v0, v1, x0, x1, h => by
    have hb' := hb b (by simp)
    have r1 := crcStep_range x b x0 x1 hb'.1 hb'.2
    exact crcFold_set l i v _ (fun y hy => hb y (by simp [hy])) (by simpa using hi) v0 v1 r1.1 r1.2 h
/-- The law of the checksum. -/
theorem crc_set (l : List Int) (i : Nat) (v : Int) (hb : isBytes l) (hi : i < l.length) (v0 : 0 ≤ v) (v1 : v < 256) (h : crc (l.set i v) = crc l) : l.getD i 0 = v := by
  unfold crc at h
  have hb2 : isBytes (l.set i v) := fun y hy => by
    rcases List.mem_or_eq_of_mem_set hy with h | rfl
    · exact hb y h
    · exact ⟨v0, v1⟩
  have r1 := crcFold_range l 4294967295 hb (by omega) (by omega)
  have r2 := crcFold_range (l.set i v) 4294967295 hb2 (by omega) (by omega)
  exact crcFold_set l i v _ hb hi v0 v1 (by omega) (by omega) (xor_inj_l r2.1 r2.2 r1.1 r1.2 (by omega) (by omega) h)
theorem crc_range (l : List Int) (hb : isBytes l) : 0 ≤ crc l ∧ crc l < 4294967296 := by
  have r1 := crcFold_range l 4294967295 hb (by omega) (by omega)
  exact xor_range _ _ r1.1 r1.2 (by omega) (by omega)
end Go.Proofs.Ytnjjkaanajifiaa.Pl

/- What is drawn: bytes bent, one byte turned. No condition. -/
namespace Go.Proofs.Ytnjjkaanajifiaa.Pl
open Go.Proofs.Ytnjjkaanajifiaa.R Go.Proofs.Ytnjjkaanajifiaa.XV
set_option linter.unusedVariables false
set_option linter.unusedSimpArgs false

theorem wrap_u8 (n : Int) : Go.IntKind.wrap .u8 n = n % 256 := by
  simp [Go.IntKind.wrap, Go.IntKind.bits, Go.IntKind.signed]
theorem wrap_u8_range (n : Int) : 0 ≤ Go.IntKind.wrap .u8 n ∧ Go.IntKind.wrap .u8 n < 256 := by
  rw [wrap_u8]
  omega
theorem xor_u8 (x y : Int) (hx0 : 0 ≤ x) (hx1 : x < 256) (hy0 : 0 ≤ y) (hy1 : y < 256) : bits .xor .u8 x y = ((x.toNat ^^^ y.toNat : Nat) : Int) := by
  obtain ⟨a, rfl⟩ := Int.eq_ofNat_of_zero_le hx0
  obtain ⟨b, rfl⟩ := Int.eq_ofNat_of_zero_le hy0
  show IntKind.u8.wrap ((BitVec.ofInt 8 (a : Int) ^^^ BitVec.ofInt 8 (b : Int)).toNat : Int) = _
  rw [BitVec.toNat_xor, BitVec.ofInt_natCast, BitVec.ofInt_natCast, BitVec.toNat_ofNat, BitVec.toNat_ofNat, Nat.mod_eq_of_lt (by omega), Nat.mod_eq_of_lt (by omega), wrap_u8]
  have := Nat.xor_lt_two_pow (n := 8) (x := a) (y := b) (by omega) (by omega)
  simp only [Int.toNat_natCast]
  omega
theorem xor_u8_ne (x y : Int) (hx0 : 0 ≤ x) (hx1 : x < 256) (hy0 : 0 < y) (hy1 : y < 256) : 0 ≤ bits .xor .u8 x y ∧ bits .xor .u8 x y < 256 ∧ bits .xor .u8 x y ≠ x := by
  rw [xor_u8 x y hx0 hx1 (by omega) hy1]
  have := Nat.xor_lt_two_pow (n := 8) (x := x.toNat) (y := y.toNat) (by omega) (by omega)
  refine ⟨by omega, by omega, fun h => ?_⟩
  have h1 : x.toNat ^^^ y.toNat = x.toNat := by omega
  have h2 := congrArg (x.toNat ^^^ ·) h1
  simp only [← Nat.xor_assoc, Nat.xor_self, Nat.zero_xor] at h2
  omega
theorem xor_u8_range (x y : Int) (hx0 : 0 ≤ x) (hx1 : x < 256) (hy0 : 0 ≤ y) (hy1 : y < 256) : 0 ≤ bits .xor .u8 x y ∧ bits .xor .u8 x y < 256 := by
  rw [xor_u8 x y hx0 hx1 hy0 hy1]
  have := Nat.xor_lt_two_pow (n := 8) (x := x.toNat) (y := y.toNat) (by omega) (by omega)
  omega
theorem isBytes_set {l : List Int} (h : isBytes l) (i : Nat) {v : Int} (v0 : 0 ≤ v) (v1 : v < 256) : isBytes (l.set i v) := fun y hy => by
  rcases List.mem_or_eq_of_mem_set hy with h' | rfl
  · exact h y h'
  · exact ⟨v0, v1⟩
theorem cur0 (x : List Int) (hx : x.length ≤ 1099511627776) : curOk x 0 := ⟨hx, Int.le_refl _, by omega⟩
end Go.Proofs.Ytnjjkaanajifiaa.Pl

/- Words and fours as bytes. No condition. -/
namespace Go.Proofs.Ytnjjkaanajifiaa.Pl
open Go.Proofs.Ytnjjkaanajifiaa.R Go.Proofs.Ytnjjkaanajifiaa.XV
set_option linter.unusedVariables false
set_option linter.unusedSimpArgs false

theorem fdiv8 (x : Int) : Int.fdiv x (2 ^ (min (Int.toNat (8 : Int)) (Go.IntKind.bits .i64))) = x / 256 := by
  rw [sh8, Int.fdiv_eq_ediv_of_nonneg _ (by omega)]
theorem fdiv16 (x : Int) : Int.fdiv x (2 ^ (min (Int.toNat (16 : Int)) (Go.IntKind.bits .i64))) = x / 65536 := by
  rw [sh16, Int.fdiv_eq_ediv_of_nonneg _ (by omega)]
theorem fdiv24 (x : Int) : Int.fdiv x (2 ^ (min (Int.toNat (24 : Int)) (Go.IntKind.bits .i64))) = x / 16777216 := by
  rw [sh24, Int.fdiv_eq_ediv_of_nonneg _ (by omega)]
def two (x : Int) : List Int := [x / 256 % 256, x % 256]
def four (x : Int) : List Int := [x / 16777216 % 256, x / 65536 % 256, x / 256 % 256, x % 256]
theorem joined2 (a b : List Int) (h : a.length + b.length ≤ 2097152) : F_impl_joined [a, b] = some (a ++ b) := by
  have hF : FUEL = (FUEL - 3) + 1 + 1 + 1 := by
    have := FUEL_eq
    omega
  unfold F_impl_joined L_impl_joined_3
  rw [hF]
  have s0 : ∀ again, S_impl_joined_3 (fun x1 => some x1) again ([a, b], (2 : Int), (0 : Int), ([] : List E_u8)) = again ([a, b], 2, 1, a) := by
    intro again
    unfold S_impl_joined_3
    have hw : Go.IntKind.wrap .i64 (0 + 1) = 1 := w64 (by omega) (by omega)
    have hr : rd_s_u8 [a, b] 0 = a := rfl
    simp only [hw, hr, List.length_nil, List.length_cons, List.nil_append]
    rw [if_pos (by omega), if_pos (by omega), if_pos (by omega)]
    rfl
  have s1 : ∀ again, S_impl_joined_3 (fun x1 => some x1) again ([a, b], (2 : Int), (1 : Int), a) = again ([a, b], 2, 2, a ++ b) := by
    intro again
    unfold S_impl_joined_3
    have hw : Go.IntKind.wrap .i64 (1 + 1) = 2 := w64 (by omega) (by omega)
    have hr : rd_s_u8 [a, b] 1 = b := rfl
    simp only [hw, hr, List.length_cons, List.length_nil]
    rw [if_pos (by omega), if_pos (by omega), if_pos (by omega)]
    rfl
  have s2 : ∀ again, S_impl_joined_3 (fun x1 => some x1) again ([a, b], (2 : Int), (2 : Int), a ++ b) = some (a ++ b) := by
    intro again
    unfold S_impl_joined_3
    rfl
  rw [show ((List.length [a, b] : Nat) : Int) = 2 from rfl, iter, s0, iter, s1, iter, s2]
theorem four_bytes (x : Int) : isBytes (four x) := by
  intro y hy
  simp only [four, List.mem_cons, List.mem_nil_iff, or_false] at hy
  rcases hy with h | h | h | h <;> subst h <;> omega
theorem isBytes_append {l m : List Int} (h : isBytes l) (h' : isBytes m) : isBytes (l ++ m) := fun x hx => (List.mem_append.1 hx).elim (h x) (h' x)
theorem by_set (l : List Int) (i : Nat) (v j : Int) (hj : j.toNat ≠ i) : by_ (l.set i v) j = by_ l j := by
  unfold by_
  rw [List.getD_eq_getElem?_getD, List.getD_eq_getElem?_getD, List.getElem?_set_ne (fun e => hj e.symm)]
theorem by_set_self (l : List Int) (i : Nat) (v : Int) (hi : i < l.length) : by_ (l.set i v) (i : Int) = v := by
  unfold by_
  rw [List.getD_eq_getElem?_getD, Int.toNat_natCast, List.getElem?_set_self hi]
  rfl
end Go.Proofs.Ytnjjkaanajifiaa.Pl

