/- Base, Loops, Marks, MarkC, Rng, Pool, Keys, Tree, Seen, Walk, Whole, Names, Ops, Crc. No condition. -/
import Derived.Test.YtibkaphfhdmjlaaDK0
import Derived.Laws.BitsLemmas
/- Plain words: loops, numbers, bytes, texts, the checksum. No condition. -/
namespace Go.Proofs.Ytibkaphfhdmjlaa.Pl
open Go.Proofs.Ytibkaphfhdmjlaa.R Go.Proofs.Ytibkaphfhdmjlaa.XK
set_option linter.unusedVariables false
set_option linter.unusedSimpArgs false

/-! ### Loops -/
/-- A loop's value by its measure. -/
theorem loop_lt {T R : Type} {step : (T → Option R) → T → Option R} (μ : T → Nat) (inv : T → Prop) (G : T → Option R)
    (h : ∀ again t, inv t → (∀ t', inv t' → μ t' < μ t → again t' = G t') → step again t = G t) : ∀ (n : Nat) (t : T), inv t → μ t < n → iter step n t = G t := by
  intro n
  induction n with
  | zero => intro t _ hn; omega
  | succ n ih =>
    intro t ht hn
    rw [iter]
    exact h _ t ht fun t' ht' hlt => ih t' ht' (by omega)
theorem loop_fuel {T R : Type} {step : (T → Option R) → T → Option R} (μ : T → Nat) (inv : T → Prop) (G : T → Option R)
    (h : ∀ again t, inv t → (∀ t', inv t' → μ t' < μ t → again t' = G t') → step again t = G t) (t : T) (ht : inv t) (hn : μ t < 18446744073709551616) : iter step FUEL t = G t :=
  loop_lt μ inv G h FUEL t ht (by rw [FUEL_eq]; exact hn)

/-! ### Numbers -/
theorem w64 {n : Int} (h0 : -9223372036854775808 ≤ n) (h1 : n ≤ 9223372036854775807) : Go.IntKind.wrap .i64 n = n := by
  rw [IntKind.wrap_i64]
  omega
def inR (x a b : Int) : Bool := decide (a ≤ x) && decide (x ≤ b)
theorem inR_iff {x a b : Int} : inR x a b = true ↔ a ≤ x ∧ x ≤ b := by simp [inR]
theorem wrap_small (n : Nat) (h : n < 9223372036854775808) : IntKind.i64.wrap (n : Int) = n := by
  rw [IntKind.wrap_i64]
  omega
theorem ofInt_toNat (x : Int) : ((BitVec.ofInt 64 x).toNat : Int) = x % 18446744073709551616 := by
  rw [BitVec.toNat_ofInt]
  omega
theorem and_mask (x : Int) (m : Nat) (j : Nat) (hj : j < 63) (hm : m = 2 ^ j - 1) : bits .and .i64 x m = x % (2 ^ j : Nat) := by
  have hd : (2 ^ j : Nat) ∣ 18446744073709551616 := by
    have : (18446744073709551616 : Nat) = 2 ^ j * 2 ^ (64 - j) := by rw [← Nat.pow_add, show j + (64 - j) = 64 by omega]
    rw [this]
    exact Nat.dvd_mul_right _ _
  have hlt : m < 18446744073709551616 := by
    have : 2 ^ j ≤ 2 ^ 64 := Nat.pow_le_pow_right (by omega) (by omega)
    have h1 : 0 < 2 ^ j := Nat.two_pow_pos j
    omega
  have hj63 : 2 ^ j < 9223372036854775808 := by
    have : 2 ^ j ≤ 2 ^ 62 := Nat.pow_le_pow_right (by omega) (by omega)
    omega
  show IntKind.i64.wrap ((BitVec.ofInt 64 x &&& BitVec.ofInt 64 (m : Int)).toNat : Int) = _
  rw [BitVec.toNat_and, BitVec.ofInt_natCast, BitVec.toNat_ofNat, Nat.mod_eq_of_lt hlt, hm, Nat.and_two_pow_sub_one_eq_mod]
  have h2 := Nat.mod_lt (BitVec.ofInt 64 x).toNat (Nat.two_pow_pos j)
  rw [wrap_small _ (by omega), Int.natCast_emod, ofInt_toNat]
  exact Int.emod_emod_of_dvd _ (Int.ofNat_dvd.2 hd)
theorem and255 (x : Int) : bits .and .i64 x 255 = x % 256 := and_mask x 255 8 (by omega) (by decide)
theorem and1 (x : Int) : bits .and .i64 x 1 = x % 2 := and_mask x 1 1 (by omega) (by decide)
theorem xor_nat (a b : Nat) (ha : a < 9223372036854775808) (hb : b < 9223372036854775808) : bits .xor .i64 (a : Int) (b : Int) = ((a ^^^ b : Nat) : Int) := by
  show IntKind.i64.wrap ((BitVec.ofInt 64 (a : Int) ^^^ BitVec.ofInt 64 (b : Int)).toNat : Int) = _
  rw [BitVec.toNat_xor, BitVec.ofInt_natCast, BitVec.ofInt_natCast, BitVec.toNat_ofNat, BitVec.toNat_ofNat, Nat.mod_eq_of_lt (by omega), Nat.mod_eq_of_lt (by omega)]
  exact wrap_small _ (Nat.xor_lt_two_pow (n := 63) ha hb)
theorem or_nat (a b : Nat) (ha : a < 9223372036854775808) (hb : b < 9223372036854775808) : bits .or .i64 (a : Int) (b : Int) = ((a ||| b : Nat) : Int) := by
  show IntKind.i64.wrap ((BitVec.ofInt 64 (a : Int) ||| BitVec.ofInt 64 (b : Int)).toNat : Int) = _
  rw [BitVec.toNat_or, BitVec.ofInt_natCast, BitVec.ofInt_natCast, BitVec.toNat_ofNat, BitVec.toNat_ofNat, Nat.mod_eq_of_lt (by omega), Nat.mod_eq_of_lt (by omega)]
  exact wrap_small _ (Nat.or_lt_two_pow (n := 63) ha hb)
/-- High bits beside low bits. -/
theorem or_join (j : Nat) (hj : j ≤ 62) (a b : Int) (h0 : 0 ≤ a) (h1 : a * 2 ^ j < 9223372036854775808) (hb0 : 0 ≤ b) (hb1 : b < 2 ^ j) : bits .or .i64 (a * 2 ^ j) b = a * 2 ^ j + b := by
  obtain ⟨a, rfl⟩ := Int.eq_ofNat_of_zero_le h0
  obtain ⟨b, rfl⟩ := Int.eq_ofNat_of_zero_le hb0
  have e2 : ((2 : Int) ^ j) = ((2 ^ j : Nat) : Int) := by rw [Int.natCast_pow]; rfl
  have hb1' : b < 2 ^ j := by
    rw [e2] at hb1
    exact Int.ofNat_lt.1 hb1
  have e : (a : Int) * 2 ^ j = ((a * 2 ^ j : Nat) : Int) := by rw [e2, Int.natCast_mul]
  rw [e] at h1 ⊢
  have ha : a * 2 ^ j < 9223372036854775808 := Int.ofNat_lt.1 h1
  have hor : a * 2 ^ j ||| b = a * 2 ^ j + b := by
    rw [← Nat.shiftLeft_eq, Nat.shiftLeft_add_eq_or_of_lt hb1']
  have h62 : 2 ^ j ≤ 2 ^ 62 := Nat.pow_le_pow_right (by omega) hj
  have hbl : b < 9223372036854775808 := by omega
  rw [or_nat _ _ ha hbl, hor, Int.natCast_add]
theorem xor_range (x y : Int) (hx0 : 0 ≤ x) (hx1 : x < 4294967296) (hy0 : 0 ≤ y) (hy1 : y < 4294967296) : 0 ≤ bits .xor .i64 x y ∧ bits .xor .i64 x y < 4294967296 := by
  obtain ⟨a, rfl⟩ := Int.eq_ofNat_of_zero_le hx0
  obtain ⟨b, rfl⟩ := Int.eq_ofNat_of_zero_le hy0
  rw [xor_nat a b (by omega) (by omega)]
  have := Nat.xor_lt_two_pow (n := 32) (x := a) (y := b) (by omega) (by omega)
  omega

/-! ### Bytes -/
def isBytes (l : List Int) : Prop := ∀ x ∈ l, 0 ≤ x ∧ x < 256
def by_ (l : List Int) (i : Int) : Int := l.getD i.toNat 0
theorem by_range {l : List Int} (h : isBytes l) (i : Int) : 0 ≤ by_ l i ∧ by_ l i < 256 := by
  unfold by_
  rw [List.getD_eq_getElem?_getD]
  cases hl : l[i.toNat]? with
  | none => simp
  | some x => exact h x (List.mem_of_getElem? hl)
theorem isBytes_take {l : List Int} (h : isBytes l) (n : Nat) : isBytes (l.take n) := fun x hx => h x (List.mem_of_mem_take hx)
theorem isBytes_drop {l : List Int} (h : isBytes l) (n : Nat) : isBytes (l.drop n) := fun x hx => h x (List.mem_of_mem_drop hx)
theorem by_take {l : List Int} {n : Nat} {i : Int} (hi : i.toNat < n) : by_ (l.take n) i = by_ l i := by
  unfold by_
  rw [List.getD_eq_getElem?_getD, List.getD_eq_getElem?_getD, List.getElem?_take, if_pos hi]

/-! ### The checksum -/
def crcBit (x : Int) : Int := if x % 2 = 1 then bits .xor .i64 (x / 2) 2197175160 else x / 2
def crcBits : Nat → Int → Int
  | 0, x => x
  | n + 1, x => crcBits n (crcBit x)
def crcStep (x b : Int) : Int := crcBits 8 (bits .xor .i64 x b)
def crc (l : List Int) : Int := bits .xor .i64 (l.foldl crcStep 4294967295) 4294967295
theorem crcBit_range (x : Int) (h0 : 0 ≤ x) (h1 : x < 4294967296) : 0 ≤ crcBit x ∧ crcBit x < 4294967296 := by
  unfold crcBit
  split
  · exact xor_range _ _ (by omega) (by omega) (by omega) (by omega)
  · omega
theorem crcBits_range : ∀ (n : Nat) (x : Int), 0 ≤ x → x < 4294967296 → 0 ≤ crcBits n x ∧ crcBits n x < 4294967296
  | 0, _, h0, h1 => ⟨h0, h1⟩
  | n + 1, x, h0, h1 => crcBits_range n _ (crcBit_range x h0 h1).1 (crcBit_range x h0 h1).2
theorem crcStep_range (x b : Int) (h0 : 0 ≤ x) (h1 : x < 4294967296) (hb0 : 0 ≤ b) (hb1 : b < 256) : 0 ≤ crcStep x b ∧ crcStep x b < 4294967296 := by
  have := xor_range x b h0 h1 hb0 (by omega)
  exact crcBits_range 8 _ this.1 this.2
end Go.Proofs.Ytibkaphfhdmjlaa.Pl

/- Loops over lists: copies, comparisons, sizes. No condition. -/
namespace Go.Proofs.Ytibkaphfhdmjlaa.Pl
open Go.Proofs.Ytibkaphfhdmjlaa.R Go.Proofs.Ytibkaphfhdmjlaa.XK
set_option linter.unusedVariables false
set_option linter.unusedSimpArgs false

/-- What holds of every round's answer holds of the loop's. -/
theorem loop_prop {T R : Type} {step : (T → Option R) → T → Option R} (μ : T → Nat) (inv : T → Prop) (Q : T → Option R → Prop)
    (h : ∀ again t, inv t → (∀ t', inv t' → μ t' < μ t → Q t' (again t')) → Q t (step again t)) (t : T) (ht : inv t) (hn : μ t < 18446744073709551616) : Q t (iter step FUEL t) := by
  have key : ∀ (n : Nat) (t : T), inv t → μ t < n → Q t (iter step n t) := by
    intro n
    induction n with
    | zero => intro t _ hn; omega
    | succ n ih =>
      intro t ht hn
      rw [iter]
      exact h _ t ht fun t' ht' hlt => ih t' ht' (by omega)
  exact key FUEL t ht (by rw [FUEL_eq]; exact hn)
theorem getD_get {A : Type} (da : A) (l : List A) (i : Int) (h0 : 0 ≤ i) (h : i < l.length) : l.getD i.toNat da = l[i.toNat]'(by omega) := by
  rw [List.getD_eq_getElem?_getD, List.getElem?_eq_getElem (by omega)]
  rfl
theorem getD_mem {A : Type} (da : A) (l : List A) (i : Int) (h0 : 0 ≤ i) (h : i < l.length) : l.getD i.toNat da ∈ l := by
  rw [getD_get da l i h0 h]
  exact List.getElem_mem _
theorem drop_getD {A : Type} (da : A) (l : List A) (i : Int) (h0 : 0 ≤ i) (h : i < l.length) : l.drop i.toNat = l.getD i.toNat da :: l.drop (i + 1).toNat := by
  rw [getD_get da l i h0 h, show (i + 1).toNat = i.toNat + 1 by omega, ← List.drop_eq_getElem_cons]
theorem copy_loop {A R : Type} (da : A) {step : (List A × Int × List A → Option R) → List A × Int × List A → Option R} (k : List A → Option R) (l : List A) (hl : l.length ≤ 1099511627776)
    (h : ∀ again i o, 0 ≤ i → i < (l.length : Int) → o.length = l.length → step again (l, i, o) = again (l, i + 1, o.set i.toNat (l.getD i.toNat da)))
    (hd : ∀ again i o, ¬ i < (l.length : Int) → step again (l, i, o) = k o) (o : List A) (ho : o.length = l.length) : iter step FUEL (l, 0, o) = k l := by
  rw [loop_fuel (fun t : List A × Int × List A => t.1.length - t.2.1.toNat) (fun t => t.1 = l ∧ 0 ≤ t.2.1 ∧ t.2.1 ≤ l.length ∧ t.2.2.length = l.length) (fun t => k (t.2.2.take t.2.1.toNat ++ l.drop t.2.1.toNat)) ?_ (l, 0, o) ⟨rfl, by simp, by simp, ho⟩ (by simp; omega)]
  · simp
  · rintro again ⟨l', i, o⟩ ⟨rfl, h0, h1, hlen⟩ hag
    simp only at h0 h1 hlen hl ⊢
    by_cases hi : i < (l'.length : Int)
    · rw [h again i o h0 hi hlen, hag (l', i + 1, _) ⟨rfl, by simp only; omega, by simp only; omega, by simpa using hlen⟩ (by simp only; omega), drop_getD da l' i h0 hi]
      have e1 : (i + 1).toNat = i.toNat + 1 := by omega
      have hn : i.toNat < o.length := by omega
      simp only [e1]
      rw [List.take_succ_eq_append_getElem (by simpa using hn), List.take_set_of_le (Nat.le_refl _)]
      simp
    · have : i.toNat = l'.length := by omega
      rw [hd again i o hi, List.drop_of_length_le (by omega), List.take_of_length_le (by omega)]
      simp
theorem eq_loop {A R : Type} {step : (List A × List A × Int → Option R) → List A × List A × Int → Option R} (k : Unit → Option R) (l : List A) (hl : l.length ≤ 1099511627776)
    (h : ∀ again i, 0 ≤ i → i < (l.length : Int) → step again (l, l, i) = again (l, l, i + 1))
    (hd : ∀ again i, ¬ i < (l.length : Int) → step again (l, l, i) = k ()) : iter step FUEL (l, l, 0) = k () := by
  rw [loop_fuel (fun t : List A × List A × Int => t.1.length - t.2.2.toNat) (fun t => t.1 = l ∧ t.2.1 = l ∧ 0 ≤ t.2.2 ∧ t.2.2 ≤ l.length) (fun _ => k ()) ?_ (l, l, 0) ⟨rfl, rfl, by simp, by simp⟩ (by simp; omega)]
  rintro again ⟨a, b, i⟩ ⟨h1, h2, h0, h3⟩ hag
  simp only at h1 h2 h0 h3 ⊢
  subst h1 h2
  by_cases hi : i < (b.length : Int)
  · rw [h again i h0 hi]
    exact hag (b, b, i + 1) ⟨rfl, rfl, by simp only; omega, by simp only; omega⟩ (by simp only; omega)
  · exact hd again i hi
def sumW {A : Type} (w : A → Int) (l : List A) : Int := l.foldr (fun a s => w a + s) 0
theorem sumW_cons {A : Type} (w : A → Int) (a : A) (l : List A) : sumW w (a :: l) = w a + sumW w l := rfl
theorem sumW_mem {A : Type} {w : A → Int} (hw : ∀ a, 0 ≤ w a) : ∀ {l : List A} {a : A}, a ∈ l → w a ≤ sumW w l ∧ 0 ≤ sumW w l
  | b :: l, a, h => by
    have hs : 0 ≤ sumW w l := by
      clear h
      induction l with
      | nil => exact Int.le_refl _
      | cons c l ih => rw [sumW_cons]; have := hw c; omega
    rw [sumW_cons]
    have := hw b
    rcases List.mem_cons.1 h with rfl | h
    · omega
    · have := (sumW_mem hw h).1
      omega
theorem sumW_nonneg {A : Type} {w : A → Int} (hw : ∀ a, 0 ≤ w a) (l : List A) : 0 ≤ sumW w l := by
  induction l with
  | nil => exact Int.le_refl _
  | cons c l ih => rw [sumW_cons]; have := hw c; omega
/-- What a size function answers: it is over, or the weight is taken off. -/
def szOk (n w : Int) (o : Option Int) : Prop := ∃ r, o = some r ∧ (r < 0 ∨ (0 ≤ r ∧ r = n - w))
theorem sz_loop {A R : Type} (da : A) (w : A → Int) (f : A → Int → Option Int) {step : (List A × Int × Int → Option R) → List A × Int × Int → Option R} (k0 : Int × Int → Option R) (k1 : Int → Option R) (l : List A) (hl : l.length ≤ 1099511627776)
    (hw : ∀ a, 0 ≤ w a) (hf : ∀ a ∈ l, ∀ n, 0 ≤ n → n ≤ 1048576 → szOk n (w a) (f a n))
    (h : ∀ again n i r, 0 ≤ i → i < (l.length : Int) → f (l.getD i.toNat da) n = some r → step again (l, n, i) = if r < 0 then k0 (r, -1) else again (l, r, i + 1))
    (hd : ∀ again n i, ¬ i < (l.length : Int) → step again (l, n, i) = k1 n) (n : Int) (hn0 : 0 ≤ n) (hn1 : n ≤ 1048576) :
    (∃ r, iter step FUEL (l, n, 0) = k0 (r, -1)) ∨ (∃ r, 0 ≤ r ∧ r = n - sumW w l ∧ iter step FUEL (l, n, 0) = k1 r) := by
  have key := loop_prop (step := step) (fun t : List A × Int × Int => t.1.length - t.2.2.toNat) (fun t => t.1 = l ∧ 0 ≤ t.2.1 ∧ t.2.1 ≤ 1048576 ∧ 0 ≤ t.2.2 ∧ t.2.2 ≤ l.length)
    (fun t res => (∃ r, res = k0 (r, -1)) ∨ (∃ r, 0 ≤ r ∧ r = t.2.1 - sumW w (l.drop t.2.2.toNat) ∧ res = k1 r)) ?_ (l, n, 0) ⟨rfl, hn0, hn1, by simp, by simp⟩ (by simp; omega)
  · simpa using key
  · rintro again ⟨l', n, i⟩ ⟨rfl, a0, a1, h0, h1⟩ hag
    simp only at a0 a1 h0 h1 hl ⊢
    by_cases hi : i < (l'.length : Int)
    · obtain ⟨r, hr, hc⟩ := hf _ (getD_mem da l' i h0 hi) n a0 a1
      have := hw (l'.getD i.toNat da)
      rw [h again n i r h0 hi hr, drop_getD da l' i h0 hi, sumW_cons]
      rcases hc with hc | ⟨hc0, hc1⟩
      · rw [if_pos hc]
        exact .inl ⟨r, rfl⟩
      · rw [if_neg (by omega)]
        rcases hag (l', r, i + 1) ⟨rfl, hc0, by simp only; omega, by simp only; omega, by simp only; omega⟩ (by simp only; omega) with hh | ⟨r', q0, q1, q2⟩
        · exact .inl hh
        · exact .inr ⟨r', q0, by simp only at q1; omega, q2⟩
    · rw [hd again n i hi, List.drop_of_length_le (by omega)]
      exact .inr ⟨n, a0, by simp [sumW], rfl⟩
end Go.Proofs.Ytibkaphfhdmjlaa.Pl

/- Marks, element by element. No condition. -/
namespace Go.Proofs.Ytibkaphfhdmjlaa.Pl
open Go.Proofs.Ytibkaphfhdmjlaa.R Go.Proofs.Ytibkaphfhdmjlaa.XK
set_option linter.unusedVariables false
set_option linter.unusedSimpArgs false

/-- What marking leaves, element by element. -/
def marksL {A : Type} (mk : A → Int → A) (cnt : A → Int) : List A → Int → List A
  | [], _ => []
  | a :: l, k => mk a k :: marksL mk cnt l (k + cnt a)
theorem marksL_len {A : Type} (mk : A → Int → A) (cnt : A → Int) : ∀ (l : List A) (k : Int), (marksL mk cnt l k).length = l.length
  | [], _ => rfl
  | a :: l, k => by simp [marksL, marksL_len mk cnt l]
theorem mark_loop {A R : Type} (da : A) (mk : A → Int → A) (cnt : A → Int) (hc : ∀ a, 0 ≤ cnt a) (P : A → Prop) {step : (Int × Int × List A → Option R) → Int × Int × List A → Option R} (k0 : Int × List A → Option R) (M : Int)
    (h : ∀ again k i l, 0 ≤ i → i < ((List.length l : Nat) : Int) → 0 ≤ k → k + cnt (l.getD i.toNat da) ≤ M → (List.length l : Int) ≤ 1099511627776 → P (l.getD i.toNat da) → step again (k, i, l) = again (k + cnt (l.getD i.toNat da), i + 1, l.set i.toNat (mk (l.getD i.toNat da) k)))
    (hd : ∀ again k i l, ¬ i < ((List.length l : Nat) : Int) → step again (k, i, l) = k0 (k, l))
    (l : List A) (k : Int) (hk : 0 ≤ k) (hl : l.length ≤ 1099511627776) (hM : k + sumW cnt l ≤ M) (hP : ∀ a ∈ l, P a) : iter step FUEL (k, 0, l) = k0 (k + sumW cnt l, marksL mk cnt l k) := by
  rw [loop_fuel (fun t : Int × Int × List A => l.length - t.2.1.toNat) (fun t => 0 ≤ t.2.1 ∧ t.2.1 ≤ l.length ∧ t.2.2.length = l.length ∧ 0 ≤ t.1 ∧ t.1 + sumW cnt (t.2.2.drop t.2.1.toNat) ≤ M ∧ ∀ a ∈ t.2.2.drop t.2.1.toNat, P a) (fun t => k0 (t.1 + sumW cnt (t.2.2.drop t.2.1.toNat), t.2.2.take t.2.1.toNat ++ marksL mk cnt (t.2.2.drop t.2.1.toNat) t.1)) ?_ (k, 0, l) ⟨by simp, by simp, rfl, hk, by simpa using hM, by simpa using hP⟩ (by simp; omega)]
  · simp
  · rintro again ⟨k', i, o⟩ ⟨h1, h2, h3, h4, h5, h6⟩ hag
    simp only at h1 h2 h3 h4 h5 h6 ⊢
    by_cases hi : i < ((List.length o : Nat) : Int)
    · have hn : i.toNat < o.length := by omega
      rw [drop_getD da o i h1 hi] at h5 h6 ⊢
      rw [sumW_cons] at h5 ⊢
      have hs := sumW_nonneg hc (o.drop (i + 1).toNat)
      have e1 : (i + 1).toNat = i.toNat + 1 := by omega
      have hd1 : (o.set i.toNat (mk (o.getD i.toNat da) k')).drop (i + 1).toNat = o.drop (i + 1).toNat := by
        rw [e1, List.drop_set_of_lt (by omega)]
      rw [h again k' i o h1 hi h4 (by omega) (by omega) (h6 _ (by simp)), hag (k' + cnt (o.getD i.toNat da), i + 1, o.set i.toNat (mk (o.getD i.toNat da) k')) ⟨by simp only; omega, by simp only; omega, by simpa using h3, by have := hc (o.getD i.toNat da); simp only; omega, by
        simp only [hd1]
        omega, by
        simp only [hd1]
        exact fun a ha => h6 a (by simp [ha])⟩ (by simp only; omega)]
      simp only [hd1]
      rw [e1, List.take_succ_eq_append_getElem (by simpa using hn), List.take_set_of_le (Nat.le_refl _)]
      simp [marksL, Int.add_assoc]
    · rw [hd again k' i o hi, List.drop_of_length_le (by omega), List.take_of_length_le (by omega)]
      simp [sumW, marksL]
theorem held_loop {A R : Type} (da : A) (mk : A → Int → A) (cnt : A → Int) (hc : ∀ a, 0 ≤ cnt a) {step : (List A × Int × Int → Option R) → List A × Int × Int → Option R} (k1 : Int → Option R) (M : Int)
    (h : ∀ again l k i a, 0 ≤ i → i < ((List.length l : Nat) : Int) → 0 ≤ k → k + cnt a ≤ M → (List.length l : Int) ≤ 1099511627776 → l.getD i.toNat da = mk a k → step again (l, k, i) = again (l, k + cnt a, i + 1))
    (hd : ∀ again l k i, ¬ i < ((List.length l : Nat) : Int) → step again (l, k, i) = k1 k)
    (l : List A) (k : Int) (hk : 0 ≤ k) (hl : l.length ≤ 1099511627776) (hM : k + sumW cnt l ≤ M) : iter step FUEL (marksL mk cnt l k, k, 0) = k1 (k + sumW cnt l) := by
  have hlen := marksL_len mk cnt l k
  rw [loop_fuel (fun t : List A × Int × Int => l.length - t.2.2.toNat) (fun t => t.1 = marksL mk cnt l k ∧ 0 ≤ t.2.2 ∧ t.2.2 ≤ l.length ∧ 0 ≤ t.2.1 ∧ ∃ r, t.1.drop t.2.2.toNat = marksL mk cnt r t.2.1 ∧ t.2.1 + sumW cnt r = k + sumW cnt l) (fun t => k1 (k + sumW cnt l)) ?_ (marksL mk cnt l k, k, 0) ⟨rfl, by simp, by simp, hk, l, by simp, rfl⟩ (by simp; omega)]
  rintro again ⟨o, k', i⟩ ⟨h1, h2, h3, h4, r, h5, h6⟩ hag
  simp only at h1 h2 h3 h4 h5 h6 ⊢
  subst h1
  by_cases hi : i < ((List.length (marksL mk cnt l k) : Nat) : Int)
  · rw [drop_getD da _ i h2 hi] at h5
    cases r with
    | nil => simp [marksL] at h5
    | cons a r =>
      rw [marksL] at h5
      injection h5 with e1 e2
      rw [sumW_cons] at h6
      have hs := sumW_nonneg hc r
      rw [h again _ k' i a h2 hi h4 (by omega) (by omega) e1]
      exact hag _ ⟨rfl, by simp only; omega, by simp only; omega, by have := hc a; simp only; omega, r, e2, by simp only; omega⟩ (by simp only; omega)
  · have hz : sumW cnt r = 0 := by
      rw [List.drop_of_length_le (by omega)] at h5
      cases r with
      | nil => rfl
      | cons a r => simp [marksL] at h5
    rw [hd again _ k' i hi, show k' = k + sumW cnt l by omega]
end Go.Proofs.Ytibkaphfhdmjlaa.Pl

/- Marks of bytes and texts, held. No condition. -/
namespace Go.Proofs.Ytibkaphfhdmjlaa.Pl
open Go.Proofs.Ytibkaphfhdmjlaa.R Go.Proofs.Ytibkaphfhdmjlaa.XK
set_option linter.unusedVariables false
set_option linter.unusedSimpArgs false

def mkB (k : Int) (n : Nat) : List Int := (List.range n).map fun (j : Nat) => Go.IntKind.wrap .u8 (k + (j : Int))
theorem mkB_len (k : Int) (n : Nat) : (mkB k n).length = n := by simp [mkB]
theorem mkB_succ (k : Int) (n : Nat) : mkB k (n + 1) = Go.IntKind.wrap .u8 k :: mkB (k + 1) n := by
  unfold mkB
  rw [List.range_succ_eq_map, List.map_cons, List.map_map]
  congr 1
  · simp
  · refine List.map_congr_left fun j _ => ?_
    simp only [Function.comp]
    congr 1
    omega
theorem mkB_get (k : Int) (n j : Nat) (h : j < n) : (mkB k n).getD j 0 = Go.IntKind.wrap .u8 (k + j) := by
  unfold mkB
  rw [List.getD_eq_getElem?_getD, List.getElem?_map, List.getElem?_range h]
  rfl
theorem markByteS_eq (l : List Int) (k : Int) (h0 : 0 ≤ k) (hk : k ≤ 1099511627776) (hl : l.length ≤ 1099511627776) : F_laws_markByteS (l, k) = some (k + l.length, mkB k l.length) := by
  unfold F_laws_markByteS L_laws_markByteS_2
  rw [loop_fuel (fun t : Int × Int × List Int => l.length - t.2.1.toNat) (fun t => t.1 = k + t.2.1 ∧ 0 ≤ t.2.1 ∧ t.2.1 ≤ l.length ∧ t.2.2.length = l.length) (fun t => some (k + l.length, t.2.2.take t.2.1.toNat ++ mkB t.1 (l.length - t.2.1.toNat))) ?_ (k, 0, l) ⟨by simp, by simp, by simp, rfl⟩ (by simp; omega)]
  · simp
  · rintro again ⟨k', i, o⟩ ⟨h1, h2, h3, h4⟩ hag
    simp only at h1 h2 h3 h4 ⊢
    subst h1
    unfold S_laws_markByteS_2
    simp only [Bool.cond_eq_ite, decide_eq_true_eq]
    by_cases hi : i < (List.length o : Int)
    · have hn : i.toNat < o.length := by omega
      rw [if_pos hi, if_pos h2, if_pos hi, w64 (n := i + 1) (by omega) (by omega), w64 (n := k + i + 1) (by omega) (by omega), hag (k + i + 1, i + 1, o.set i.toNat (Go.IntKind.wrap .u8 (k + i))) ⟨by simp only; omega, by simp only; omega, by simp only; omega, by simpa using h4⟩ (by simp only; omega)]
      simp only
      have e1 : (i + 1).toNat = i.toNat + 1 := by omega
      rw [e1, List.take_succ_eq_append_getElem (by simpa using hn), List.take_set_of_le (Nat.le_refl _), show l.length - i.toNat = (l.length - (i.toNat + 1)) + 1 by omega, mkB_succ]
      simp
    · rw [if_neg hi]
      have e1 : i.toNat = o.length := by omega
      have e2 : i = (l.length : Int) := by omega
      rw [List.take_of_length_le (by omega), show l.length - i.toNat = 0 by omega, e2]
      simp [mkB]
theorem heldByteS_eq (k : Int) (n : Nat) (h0 : 0 ≤ k) (hk : k ≤ 1099511627776) (hl : n ≤ 1099511627776) : F_laws_heldByteS (mkB k n, k) = some (k + n) := by
  unfold F_laws_heldByteS L_laws_heldByteS_2
  rw [loop_fuel (fun t : List Int × Int × Int => n - t.2.2.toNat) (fun t => t.1 = mkB k n ∧ t.2.1 = k + t.2.2 ∧ 0 ≤ t.2.2 ∧ t.2.2 ≤ n) (fun t => some (k + n)) ?_ (mkB k n, k, 0) ⟨rfl, by simp, by simp, by simp⟩ (by simp; omega)]
  rintro again ⟨o, k', i⟩ ⟨h1, h2, h3, h4⟩ hag
  simp only at h1 h2 h3 h4 ⊢
  subst h1 h2
  unfold S_laws_heldByteS_2
  simp only [Bool.cond_eq_ite, decide_eq_true_eq]
  have hlen : ((List.length (mkB k n) : Nat) : Int) = n := by rw [mkB_len]
  by_cases hi : i < (n : Int)
  · have hget : rd_u8 (mkB k n) i = Go.IntKind.wrap .u8 (k + i) := by
      show (mkB k n).getD i.toNat 0 = _
      rw [mkB_get k n i.toNat (by omega), show ((i.toNat : Nat) : Int) = i by omega]
    rw [hlen, if_pos hi, if_pos h3, if_pos hi, hget, if_neg (by simp), w64 (n := i + 1) (by omega) (by omega), w64 (n := k + i + 1) (by omega) (by omega), hag (mkB k n, k + i + 1, i + 1) ⟨rfl, by simp only; omega, by simp only; omega, by simp only; omega⟩ (by simp only; omega)]
  · rw [hlen, if_neg hi]
    congr 1
    omega
def bigN : Int := 549755813888
theorem set_rd {A : Type} (da : A) (l : List A) (i : Int) (v : A) (h0 : 0 ≤ i) (h1 : i < (List.length l : Int)) : (l.set i.toNat v).getD i.toNat da = v := by
  rw [List.getD_eq_getElem?_getD, List.getElem?_set_self (by omega)]
  rfl
theorem textOf1 (x : Int) : ByteArray.size (textOf [x]) = 1 := rfl
theorem add1 (k : Int) (h0 : 0 ≤ k) (h1 : k ≤ 1099511627776) : Go.IntKind.wrap .i64 (k + 1) = k + 1 := w64 (by omega) (by omega)
end Go.Proofs.Ytibkaphfhdmjlaa.Pl

/- Ranges. No condition. -/
namespace Go.Proofs.Ytibkaphfhdmjlaa.Pl
open Go.Proofs.Ytibkaphfhdmjlaa.R Go.Proofs.Ytibkaphfhdmjlaa.XK
set_option linter.unusedVariables false
set_option linter.unusedSimpArgs false

theorem l1In_eq (x a b : Int) : F_spec_l1In (x, a, b) = some (inR x a b) := by
  unfold F_spec_l1In inR
  by_cases h : x ≥ a <;> simp [h]
theorem within_eq (x a b : Int) : F_impl_within (x, a, b) = some (inR x a b) := by
  unfold F_impl_within inR
  by_cases h : x ≥ a <;> simp [h]
theorem bi (x y : Int) : ((x == y) = true) = (x = y) := by simp
end Go.Proofs.Ytibkaphfhdmjlaa.Pl

/- Pools: copies, comparisons, sizes. No condition. -/
namespace Go.Proofs.Ytibkaphfhdmjlaa.Pl
open Go.Proofs.Ytibkaphfhdmjlaa.R Go.Proofs.Ytibkaphfhdmjlaa.XK
set_option linter.unusedVariables false
set_option linter.unusedSimpArgs false

theorem sz_flat (n : Int) (m : Nat) (hn0 : 0 ≤ n) (hn1 : n ≤ 1048576) (hm : m ≤ maxLen) : szOk n m (bif decide (Go.IntKind.wrap .i64 (n - ((m : Nat) : Int)) < (0 : Int)) then some (-1 : Int) else some (Go.IntKind.wrap .i64 (n - ((m : Nat) : Int)))) := by
  simp only [maxLen] at hm
  rw [w64 (n := n - m) (by omega) (by omega)]
  simp only [Bool.cond_eq_ite, decide_eq_true_eq]
  by_cases h : n - m < 0
  · rw [if_pos h]
    exact ⟨-1, rfl, .inl (by omega)⟩
  · rw [if_neg h]
    exact ⟨_, rfl, .inr ⟨by omega, rfl⟩⟩
end Go.Proofs.Ytibkaphfhdmjlaa.Pl

/- Sets of keys: both sides put, merge, drop and collect alike. No condition. -/
namespace Go.Proofs.Ytibkaphfhdmjlaa.Pl
open Go.Proofs.Ytibkaphfhdmjlaa.R Go.Proofs.Ytibkaphfhdmjlaa.XK
set_option linter.unusedVariables false
set_option linter.unusedSimpArgs false

/-- A loop that folds a list. -/
theorem fold_loop {T A S R : Type} {step : (T → Option R) → T → Option R} (mk : Int → S → T) (k : S → Option R) (da : A) (g : S → A → S) (l : List A) (hl : l.length ≤ 1099511627776) (I : Nat → S → Prop)
    (h : ∀ again i s, 0 ≤ i → i < (l.length : Int) → I i.toNat s → step again (mk i s) = again (mk (i + 1) (g s (l.getD i.toNat da))) ∧ I (i.toNat + 1) (g s (l.getD i.toNat da)))
    (hd : ∀ again i s, ¬ i < (l.length : Int) → step again (mk i s) = k s) (s : S) (hs : I 0 s) : iter step FUEL (mk 0 s) = k (l.foldl g s) := by
  have key : ∀ (n : Nat) (i : Int) (s : S), 0 ≤ i → i ≤ l.length → I i.toNat s → l.length - i.toNat < n → iter step n (mk i s) = k ((l.drop i.toNat).foldl g s) := by
    intro n
    induction n with
    | zero => intro i s _ _ _ hn; omega
    | succ n ih =>
      intro i s h0 h1 hI hn
      rw [iter]
      by_cases hi : i < (l.length : Int)
      · obtain ⟨e, hI'⟩ := h (iter step n) i s h0 hi hI
        have e1 : (i + 1).toNat = i.toNat + 1 := by omega
        rw [e, ih (i + 1) _ (by omega) (by omega) (by rw [e1]; exact hI') (by omega), drop_getD da l i h0 hi]
        rfl
      · rw [hd _ i s hi, List.drop_of_length_le (by omega)]
        rfl
  have := key FUEL 0 s (by omega) (by omega) hs (by rw [FUEL_eq]; simp; omega)
  simpa using this

theorem lt40 {n k : Nat} (h : n ≤ 1073741825) (hk : (1073741825 + k) * 40 < 140737488355328) : (n + k) * 40 < 140737488355328 := by omega
def pN (p : Bool) : Nat := if p then 1 else 0
end Go.Proofs.Ytibkaphfhdmjlaa.Pl

/- Sets of keys: merge, drop, collect; the bound; the law. No condition. -/
namespace Go.Proofs.Ytibkaphfhdmjlaa.Pl
open Go.Proofs.Ytibkaphfhdmjlaa.R Go.Proofs.Ytibkaphfhdmjlaa.XK
set_option linter.unusedVariables false
set_option linter.unusedSimpArgs false

end Go.Proofs.Ytibkaphfhdmjlaa.Pl

/- Ages, paths, what is seen: both sides alike. No condition. -/
namespace Go.Proofs.Ytibkaphfhdmjlaa.Pl
open Go.Proofs.Ytibkaphfhdmjlaa.R Go.Proofs.Ytibkaphfhdmjlaa.XK
set_option linter.unusedVariables false
set_option linter.unusedSimpArgs false

/-! ### Loops that end early -/
/-- A walk over a list: each round goes on with a state or answers. -/
def runE {S A R : Type} (g : Int → S → A → Except (Option R) S) (k : S → Option R) : List A → Int → S → Option R
  | [], _, s => k s
  | a :: l, i, s => match g i s a with
    | .error r => r
    | .ok s' => runE g k l (i + 1) s'
theorem runE_loop {T A S R : Type} {step : (T → Option R) → T → Option R} (mk : Int → S → T) (g : Int → S → A → Except (Option R) S) (k : S → Option R) (da : A) (l : List A) (hl : l.length ≤ 1099511627776) (I : Nat → S → Prop)
    (h : ∀ again i s, 0 ≤ i → i < (l.length : Int) → I i.toNat s → (step again (mk i s) = match g i s (l.getD i.toNat da) with
      | .error r => r
      | .ok s' => again (mk (i + 1) s')) ∧ ∀ s', g i s (l.getD i.toNat da) = .ok s' → I (i.toNat + 1) s')
    (hd : ∀ again i s, ¬ i < (l.length : Int) → step again (mk i s) = k s) (s : S) (hs : I 0 s) : iter step FUEL (mk 0 s) = runE g k l 0 s := by
  have key : ∀ (n : Nat) (i : Int) (s : S), 0 ≤ i → i ≤ l.length → I i.toNat s → l.length - i.toNat < n → iter step n (mk i s) = runE g k (l.drop i.toNat) i s := by
    intro n
    induction n with
    | zero => intro i s _ _ _ hn; omega
    | succ n ih =>
      intro i s h0 h1 hI hn
      rw [iter]
      by_cases hi : i < (l.length : Int)
      · obtain ⟨e, hI'⟩ := h (iter step n) i s h0 hi hI
        have e1 : (i + 1).toNat = i.toNat + 1 := by omega
        rw [e, drop_getD da l i h0 hi, runE]
        cases hg : g i s (l.getD i.toNat da) with
        | error r => rfl
        | ok s' => exact ih (i + 1) s' (by omega) (by omega) (by rw [e1]; exact hI' s' hg) (by omega)
      · rw [hd _ i s hi, List.drop_of_length_le (by omega)]
        rfl
  have := key FUEL 0 s (by omega) (by omega) hs (by rw [FUEL_eq]; simp; omega)
  simpa using this
/-- The first place where p holds, counted from i; -1: there is none. -/
def findI {A : Type} (p : A → Bool) : List A → Int → Int
  | [], _ => -1
  | a :: l, i => if p a then i else findI p l (i + 1)
theorem runE_find {A R : Type} (p : A → Bool) (hit : Int → Option R) (miss : Option R) : ∀ (l : List A) (i : Int), 0 ≤ i → runE (fun i (_ : Unit) a => if p a then .error (hit i) else .ok ()) (fun _ => miss) l i () = if findI p l i < 0 then miss else hit (findI p l i)
  | [], i, _ => by simp [runE, findI]
  | a :: l, i, h => by
    rw [runE, findI]
    by_cases hp : p a = true
    · rw [if_pos hp, if_pos hp, if_neg (by omega)]
    · rw [if_neg hp, if_neg hp]
      exact runE_find p hit miss l (i + 1) (by omega)
theorem find_loop {T A R : Type} {step : (T → Option R) → T → Option R} (mk : Int → T) (p : A → Bool) (hit : Int → Option R) (miss : Option R) (da : A) (l : List A) (hl : l.length ≤ 1099511627776)
    (h : ∀ again i, 0 ≤ i → i < (l.length : Int) → step again (mk i) = if p (l.getD i.toNat da) then hit i else again (mk (i + 1)))
    (hd : ∀ again i, ¬ i < (l.length : Int) → step again (mk i) = miss) : iter step FUEL (mk 0) = if findI p l 0 < 0 then miss else hit (findI p l 0) := by
  rw [← runE_find p hit miss l 0 (Int.le_refl _)]
  refine runE_loop (fun i (_ : Unit) => mk i) _ _ da l hl (fun _ _ => True) (fun again i s h0 h1 _ => ⟨?_, fun _ _ => trivial⟩) (fun again i s hi => hd again i hi) () trivial
  rw [h again i h0 h1]
  cases p (l.getD i.toNat da) <;> rfl
theorem findI_spec {A : Type} (p : A → Bool) (da : A) : ∀ (l : List A) (i : Int), 0 ≤ i → findI p l i = -1 ∨ (i ≤ findI p l i ∧ findI p l i < i + l.length ∧ p (l.getD (findI p l i - i).toNat da) = true)
  | [], i, _ => .inl rfl
  | a :: l, i, h => by
    rw [findI]
    by_cases hp : p a = true
    · rw [if_pos hp]
      refine .inr ⟨Int.le_refl _, by simp only [List.length_cons]; omega, ?_⟩
      simpa using hp
    · rw [if_neg hp]
      rcases findI_spec p da l (i + 1) (by omega) with e | ⟨e1, e2, e3⟩
      · exact .inl e
      · refine .inr ⟨by omega, by simp only [List.length_cons]; omega, ?_⟩
        rw [show (findI p l (i + 1) - i).toNat = (findI p l (i + 1) - (i + 1)).toNat + 1 by omega, List.getD_cons_succ]
        exact e3

/-! ### Ages -/
def hasI (l : List Int) (v : Int) : Bool := decide (0 ≤ findI (fun a : Int => a == v) l 0)
end Go.Proofs.Ytibkaphfhdmjlaa.Pl

/- Walks over lists that end early, by what ends them. No condition. -/
namespace Go.Proofs.Ytibkaphfhdmjlaa.Pl
open Go.Proofs.Ytibkaphfhdmjlaa.R Go.Proofs.Ytibkaphfhdmjlaa.XK
set_option linter.unusedVariables false
set_option linter.unusedSimpArgs false

/-- Some element, at its place, is such. -/
def anyE {A : Type} (p : Int → A → Bool) : List A → Int → Bool
  | [], _ => false
  | a :: l, i => p i a || anyE p l (i + 1)
theorem anyE_or {A : Type} (p q : Int → A → Bool) : ∀ (l : List A) (i : Int), anyE (fun i a => p i a || q i a) l i = (anyE p l i || anyE q l i)
  | [], _ => rfl
  | a :: l, i => by
    rw [anyE, anyE, anyE, anyE_or p q l (i + 1)]
    cases p i a <;> cases q i a <;> cases anyE p l (i + 1) <;> rfl
theorem anyE_congr {A : Type} {p q : Int → A → Bool} : ∀ (l : List A) (i : Int), (∀ j a, i ≤ j → p j a = q j a) → anyE p l i = anyE q l i
  | [], _, _ => rfl
  | a :: l, i, h => by rw [anyE, anyE, h i a (Int.le_refl _), anyE_congr l (i + 1) (fun j a hj => h j a (by omega))]
theorem anyE_get {A : Type} (da : A) {p : Int → A → Bool} : ∀ (l : List A) (i : Int), anyE p l i = false → ∀ j : Nat, j < l.length → p (i + j) (l.getD j da) = false
  | a :: l, i, h, 0, _ => by
    rw [anyE, Bool.or_eq_false_iff] at h
    simpa using h.1
  | a :: l, i, h, j + 1, hj => by
    rw [anyE, Bool.or_eq_false_iff] at h
    have := anyE_get da l (i + 1) h.2 j (by simpa using hj)
    rw [show i + ((j + 1 : Nat) : Int) = i + 1 + (j : Int) by omega, List.getD_cons_succ]
    exact this
/-- A walk that folds, unless some element ends it. -/
theorem runE_any {A S R : Type} (p : Int → A → Bool) (f : S → A → S) (r : Option R) (k : S → Option R) : ∀ (l : List A) (i : Int) (s : S), runE (fun i s a => if p i a = true then .error r else .ok (f s a)) k l i s = if anyE p l i = true then r else k (l.foldl f s)
  | [], _, _ => by simp [runE, anyE]
  | a :: l, i, s => by
    rw [runE, anyE]
    by_cases h : p i a = true
    · simp [h]
    · have hf : p i a = false := by simpa using h
      simp only [hf, Bool.false_eq_true, if_false, Bool.false_or, List.foldl_cons]
      exact runE_any p f r k l (i + 1) (f s a)
/-- From any place on. -/
theorem runE_from {T A S R : Type} {step : (T → Option R) → T → Option R} (mk : Int → S → T) (g : Int → S → A → Except (Option R) S) (k : S → Option R) (da : A) (l : List A) (hl : l.length ≤ 1099511627776) (I : Nat → S → Prop)
    (h : ∀ again i s, 0 ≤ i → i < (l.length : Int) → I i.toNat s → (step again (mk i s) = match g i s (l.getD i.toNat da) with
      | .error r => r
      | .ok s' => again (mk (i + 1) s')) ∧ ∀ s', g i s (l.getD i.toNat da) = .ok s' → I (i.toNat + 1) s')
    (hd : ∀ again i s, ¬ i < (l.length : Int) → step again (mk i s) = k s) (i0 : Int) (h00 : 0 ≤ i0) (s : S) (hs : I i0.toNat s) : iter step FUEL (mk i0 s) = runE g k (l.drop i0.toNat) i0 s := by
  have key : ∀ (n : Nat) (i : Int) (s : S), 0 ≤ i → I i.toNat s → l.length - i.toNat < n → iter step n (mk i s) = runE g k (l.drop i.toNat) i s := by
    intro n
    induction n with
    | zero => intro i s _ _ hn; omega
    | succ n ih =>
      intro i s h0 hI hn
      rw [iter]
      by_cases hi : i < (l.length : Int)
      · obtain ⟨e, hI'⟩ := h (iter step n) i s h0 hi hI
        have e1 : (i + 1).toNat = i.toNat + 1 := by omega
        rw [e, drop_getD da l i h0 hi, runE]
        cases hg : g i s (l.getD i.toNat da) with
        | error r => rfl
        | ok s' => exact ih (i + 1) s' (by omega) (by rw [e1]; exact hI' s' hg) (by omega)
      · rw [hd _ i s hi, List.drop_of_length_le (by omega)]
        rfl
  exact key FUEL i0 s h00 hs (by rw [FUEL_eq]; omega)
/-- The walk that ends with r where p holds, and folds by f else. -/
theorem any_loop {T A S R : Type} {step : (T → Option R) → T → Option R} (mk : Int → S → T) (p : Int → A → Bool) (f : S → A → S) (r : Option R) (k : S → Option R) (da : A) (l : List A) (hl : l.length ≤ 1099511627776)
    (h : ∀ again i s, 0 ≤ i → i < (l.length : Int) → step again (mk i s) = if p i (l.getD i.toNat da) = true then r else again (mk (i + 1) (f s (l.getD i.toNat da))))
    (hd : ∀ again i s, ¬ i < (l.length : Int) → step again (mk i s) = k s) (s : S) : iter step FUEL (mk 0 s) = if anyE p l 0 = true then r else k (l.foldl f s) := by
  rw [← runE_any p f r k l 0 s]
  have := runE_from (step := step) mk (fun i s a => if p i a = true then .error r else .ok (f s a)) k da l hl (fun _ _ => True) (fun again i s h0 h1 _ => ⟨?_, fun _ _ => trivial⟩) hd 0 (Int.le_refl _) s trivial
  · simpa using this
  · rw [h again i s h0 h1]
    by_cases hp : p i (l.getD i.toNat da) = true
    · rw [if_pos hp, if_pos hp]
    · rw [if_neg hp, if_neg hp]
/-- The same without a state. -/
theorem any_loop0 {T A R : Type} {step : (T → Option R) → T → Option R} (mk : Int → T) (p : Int → A → Bool) (r k : Option R) (da : A) (l : List A) (hl : l.length ≤ 1099511627776)
    (h : ∀ again i, 0 ≤ i → i < (l.length : Int) → step again (mk i) = if p i (l.getD i.toNat da) = true then r else again (mk (i + 1)))
    (hd : ∀ again i, ¬ i < (l.length : Int) → step again (mk i) = k) : iter step FUEL (mk 0) = if anyE p l 0 = true then r else k :=
  any_loop (fun i (_ : Unit) => mk i) p (fun _ _ => ()) r (fun _ => k) da l hl (fun again i _ h0 h1 => h again i h0 h1) (fun again i _ hi => hd again i hi) ()
end Go.Proofs.Ytibkaphfhdmjlaa.Pl

/- Whole pools: sizes, copies, comparisons. No condition. -/
namespace Go.Proofs.Ytibkaphfhdmjlaa.Pl
open Go.Proofs.Ytibkaphfhdmjlaa.R Go.Proofs.Ytibkaphfhdmjlaa.XK
set_option linter.unusedVariables false
set_option linter.unusedSimpArgs false

theorem szStep (o : Option Int) (n w : Int) (k : Int → Option Int) (h : szOk n w o) : (Option.bind o fun r => bif (decide (r < (0 : Int))) then some (-1 : Int) else k r) = some (-1) ∨ (0 ≤ n - w ∧ (Option.bind o fun r => bif (decide (r < (0 : Int))) then some (-1 : Int) else k r) = k (n - w)) := by
  obtain ⟨r, rfl, hc⟩ := h
  simp only [Option.bind_some, Bool.cond_eq_ite, decide_eq_true_eq]
  rcases hc with hc | ⟨h0, h1⟩
  · exact .inl (if_pos hc)
  · subst h1
    exact .inr ⟨h0, if_neg (by omega)⟩
end Go.Proofs.Ytibkaphfhdmjlaa.Pl

/- Names: what they answer. No condition. -/
namespace Go.Proofs.Ytibkaphfhdmjlaa.Pl
open Go.Proofs.Ytibkaphfhdmjlaa.R Go.Proofs.Ytibkaphfhdmjlaa.XK
set_option linter.unusedVariables false
set_option linter.unusedSimpArgs false

def isW (n : Int) : Bool := inR n 0 65535
def nameByte (c : Int) : Bool := inR c 97 122 || inR c 48 57
def nameAll (l : List UInt8) : Bool := l.all fun c => nameByte (c.toNat : Int)
def nameOk (s : ByteArray) : Bool := nameAll s.data.toList && inR s.size 1 6
theorem w64_byte (c : UInt8) : Go.IntKind.wrap .i64 (c.toNat : Int) = c.toNat := by
  have := c.toNat_lt
  exact w64 (by omega) (by omega)
theorem get_byte (s : ByteArray) (i : Nat) (h : i < s.size) : ByteArray.get s i h = s.data.toList[i]'(by rw [Array.length_toList]; exact h) := by
  rw [Array.getElem_toList]
  rfl
theorem drop_byte (s : ByteArray) (i : Nat) (h : i < s.size) : s.data.toList.drop i = ByteArray.get s i h :: s.data.toList.drop (i + 1) := by
  rw [get_byte, ← List.drop_eq_getElem_cons]
end Go.Proofs.Ytibkaphfhdmjlaa.Pl

/- Operations: what they answer. No condition. -/
namespace Go.Proofs.Ytibkaphfhdmjlaa.Pl
open Go.Proofs.Ytibkaphfhdmjlaa.R Go.Proofs.Ytibkaphfhdmjlaa.XK
set_option linter.unusedVariables false
set_option linter.unusedSimpArgs false

/-! ### Operations -/
def opZero (kind a b : Int) : Bool :=
  if kind = 2 then decide (a = 0) && inR b 0 1 else if kind = 3 ∨ kind = 7 then decide (a = 0) && decide (b = 0) else if kind = 4 then true else decide (b = 0)
def noText (s : ByteArray) : Bool := s.toList == ([] : List UInt8)
def opOk (kind : Int) (name tt : ByteArray) (a b : Int) : Bool :=
  inR kind 1 9 && (if kind ≥ 7 then noText name else nameOk name) && (if kind = 2 then nameOk tt else noText tt) && isW a && isW b && opZero kind a b
def entOk (seq kind : Int) (name tt : ByteArray) (a b : Int) : Bool := inR seq 1 60000 && opOk kind name tt a b
theorem toList_empty : (ByteArray.toList { data := #[] }) = [] := by
  unfold ByteArray.toList ByteArray.toList.loop
  rfl
end Go.Proofs.Ytibkaphfhdmjlaa.Pl

/- The checksum, copies and comparisons of bytes. No condition. -/
namespace Go.Proofs.Ytibkaphfhdmjlaa.Pl
open Go.Proofs.Ytibkaphfhdmjlaa.R Go.Proofs.Ytibkaphfhdmjlaa.XK
set_option linter.unusedVariables false
set_option linter.unusedSimpArgs false

theorem rd_by (l : List Int) (i : Int) : rd_u8 l i = by_ l i := rfl
theorem drop_by (l : List Int) (i : Int) (h0 : 0 ≤ i) (h : i < l.length) : l.drop i.toNat = by_ l i :: l.drop (i.toNat + 1) := by
  have hn : i.toNat < l.length := by omega
  rw [List.drop_eq_getElem_cons hn]
  unfold by_
  rw [List.getD_eq_getElem?_getD, List.getElem?_eq_getElem hn]
  rfl
theorem fdiv2 (x : Int) : Int.fdiv x (2 ^ (min (Int.toNat (1 : Int)) (Go.IntKind.bits .i64))) = x / 2 := by
  show Int.fdiv x 2 = x / 2
  rw [Int.fdiv_eq_ediv_of_nonneg _ (by omega)]
theorem spec_crc_inner {R : Type} (l : List Int) (i : Int) (k : List Int × Int × Int → Option R) : ∀ x : Int, L_spec_Crc_7 k (l, x, i, 0) = k (l, crcBits 8 x, i) := by
  intro x
  unfold L_spec_Crc_7
  have key := loop_fuel (step := S_spec_Crc_7 k) (fun t : List Int × Int × Int × Int => 8 - t.2.2.2.toNat) (fun t => t.1 = l ∧ t.2.2.1 = i ∧ 0 ≤ t.2.2.2 ∧ t.2.2.2 ≤ 8) (fun t => k (l, crcBits (8 - t.2.2.2.toNat) t.2.1, i)) ?_ (l, x, i, 0) ⟨rfl, rfl, by simp, by simp⟩ (by simp)
  · simpa using key
  · rintro again ⟨l', x, i', j⟩ ⟨rfl, rfl, h0, h1⟩ hag
    simp only at h0 h1 ⊢
    unfold S_spec_Crc_7
    simp only [Bool.cond_eq_ite, decide_eq_true_eq, bi, and1, fdiv2]
    by_cases hj : j < 8
    · have hw : Go.IntKind.wrap .i64 (j + 1) = j + 1 := w64 (by omega) (by omega)
      obtain ⟨d, hd⟩ : ∃ d, 8 - j.toNat = d + 1 := ⟨7 - j.toNat, by omega⟩
      have hd' : 8 - (j + 1).toNat = d := by omega
      rw [if_pos hj, hw, hd, crcBits]
      unfold crcBit
      by_cases hx : x % 2 = 1
      · rw [if_pos hx, if_pos hx]
        have := hag (l', bits .xor .i64 (x / 2) 2197175160, i', j + 1) ⟨rfl, rfl, by simp only; omega, by simp only; omega⟩ (by simp only; omega)
        rw [this]
        simp only [hd']
      · rw [if_neg hx, if_neg hx]
        have := hag (l', x / 2, i', j + 1) ⟨rfl, rfl, by simp only; omega, by simp only; omega⟩ (by simp only; omega)
        rw [this]
        simp only [hd']
    · have : j = 8 := by omega
      subst this
      simp [crcBits]
theorem w64_by {l : List Int} (h : isBytes l) (i : Int) : Go.IntKind.wrap .i64 (by_ l i) = by_ l i := by
  have := by_range h i
  exact w64 (by omega) (by omega)
theorem spec_Crc_eq (l : List Int) (hb : isBytes l) (hl : l.length ≤ 1099511627776) : F_spec_Crc l = some (crc l) := by
  unfold F_spec_Crc L_spec_Crc_3
  rw [loop_fuel (fun t : List Int × Int × Int => t.1.length - t.2.2.toNat) (fun t => t.1 = l ∧ 0 ≤ t.2.2 ∧ t.2.2 ≤ l.length) (fun t => some (bits .xor .i64 ((l.drop t.2.2.toNat).foldl crcStep t.2.1) 4294967295)) ?_ (l, 4294967295, 0) ⟨rfl, by simp, by simp⟩ (by simp; omega)]
  · rfl
  · rintro again ⟨l', x, i⟩ ⟨rfl, h0, h1⟩ hag
    simp only at h0 h1 hl hb ⊢
    unfold S_spec_Crc_3
    simp only [Bool.cond_eq_ite, decide_eq_true_eq, rd_by, w64_by hb]
    by_cases hi : i < (l'.length : Int)
    · have hw : Go.IntKind.wrap .i64 (i + 1) = i + 1 := w64 (by omega) (by omega)
      rw [if_pos hi, if_pos h0, if_pos hi, spec_crc_inner]
      simp only [hw]
      rw [hag (l', crcBits 8 (bits .xor .i64 x (by_ l' i)), i + 1) ⟨rfl, by simp only; omega, by simp only; omega⟩ (by simp only; omega), drop_by l' i h0 hi]
      have e1 : (i + 1).toNat = i.toNat + 1 := by omega
      simp only [e1, List.foldl_cons, crcStep]
    · rw [if_neg hi, List.drop_of_length_le (by omega)]
      rfl
theorem tdiv2 (x : Int) (h : 0 ≤ x) : Int.tdiv x 2 = x / 2 := Int.tdiv_eq_ediv_of_nonneg h
theorem tmod2 (x : Int) (h : 0 ≤ x) : Int.tmod x 2 = x % 2 := Int.tmod_eq_emod_of_nonneg h
theorem impl_crc_inner {R : Type} (l : List Int) (n i : Int) (k : Int × List Int × Int × Int → Option R) : ∀ x : Int, 0 ≤ x → x < 4294967296 → L_impl_Crc_7 k (x, l, n, i, 0) = k (crcBits 8 x, l, n, i) := by
  intro x hx0 hx1
  unfold L_impl_Crc_7
  have key := loop_fuel (step := S_impl_Crc_7 k) (fun t : Int × List Int × Int × Int × Int => 8 - t.2.2.2.2.toNat) (fun t => t.2.1 = l ∧ t.2.2.1 = n ∧ t.2.2.2.1 = i ∧ 0 ≤ t.2.2.2.2 ∧ t.2.2.2.2 ≤ 8 ∧ 0 ≤ t.1 ∧ t.1 < 4294967296) (fun t => k (crcBits (8 - t.2.2.2.2.toNat) t.1, l, n, i)) ?_ (x, l, n, i, 0) ⟨rfl, rfl, rfl, by simp, by simp, hx0, hx1⟩ (by simp)
  · simpa using key
  · rintro again ⟨x, l', n', i', j⟩ ⟨rfl, rfl, rfl, h0, h1, hx0, hx1⟩ hag
    simp only at h0 h1 hx0 hx1 ⊢
    unfold S_impl_Crc_7
    simp only [Bool.cond_eq_ite, decide_eq_true_eq, bi, tmod2 x hx0, tdiv2 x hx0, w64 (n := x / 2) (by omega) (by omega)]
    by_cases hj : j < 8
    · have hw : Go.IntKind.wrap .i64 (j + 1) = j + 1 := w64 (by omega) (by omega)
      obtain ⟨d, hd⟩ : ∃ d, 8 - j.toNat = d + 1 := ⟨7 - j.toNat, by omega⟩
      have hd' : 8 - (j + 1).toNat = d := by omega
      have hr := crcBit_range x hx0 hx1
      rw [if_pos hj, hw, hd, crcBits]
      unfold crcBit at hr ⊢
      by_cases hx : x % 2 = 1
      · rw [if_pos hx] at hr ⊢
        rw [if_pos hx]
        have := hag (bits .xor .i64 (x / 2) 2197175160, l', n', i', j + 1) ⟨rfl, rfl, rfl, by simp only; omega, by simp only; omega, hr.1, hr.2⟩ (by simp only; omega)
        rw [this]
        simp only [hd']
      · rw [if_neg hx] at hr ⊢
        rw [if_neg hx]
        have := hag (x / 2, l', n', i', j + 1) ⟨rfl, rfl, rfl, by simp only; omega, by simp only; omega, hr.1, hr.2⟩ (by simp only; omega)
        rw [this]
        simp only [hd']
    · have : j = 8 := by omega
      subst this
      simp [crcBits]
theorem impl_Crc_eq (l : List Int) (hb : isBytes l) (hl : l.length ≤ 1099511627776) : F_impl_Crc l = some (crc l) := by
  unfold F_impl_Crc L_impl_Crc_3
  rw [loop_fuel (fun t : Int × List Int × Int × Int => t.2.1.length - t.2.2.2.toNat) (fun t => t.2.1 = l ∧ t.2.2.1 = l.length ∧ 0 ≤ t.2.2.2 ∧ t.2.2.2 ≤ l.length ∧ 0 ≤ t.1 ∧ t.1 < 4294967296) (fun t => some (bits .xor .i64 ((l.drop t.2.2.2.toNat).foldl crcStep t.1) 4294967295)) ?_ (4294967295, l, l.length, 0) ⟨rfl, rfl, by simp, by simp, by simp, by simp⟩ (by simp; omega)]
  · rfl
  · rintro again ⟨x, l', n, i⟩ ⟨rfl, hn, h0, h1, hx0, hx1⟩ hag
    simp only at hn h0 h1 hx0 hx1 hl hb ⊢
    subst hn
    unfold S_impl_Crc_3
    simp only [Bool.cond_eq_ite, decide_eq_true_eq, rd_by, w64_by hb]
    by_cases hi : i < (l'.length : Int)
    · have hw : Go.IntKind.wrap .i64 (i + 1) = i + 1 := w64 (by omega) (by omega)
      have hbr := by_range hb i
      have hxr := xor_range x (by_ l' i) hx0 hx1 hbr.1 (by omega)
      have hsr := crcStep_range x (by_ l' i) hx0 hx1 hbr.1 hbr.2
      rw [if_pos hi, if_pos h0, if_pos hi, impl_crc_inner _ _ _ _ _ hxr.1 hxr.2]
      simp only [hw]
      rw [hag (crcBits 8 (bits .xor .i64 x (by_ l' i)), l', l'.length, i + 1) ⟨rfl, rfl, by simp only; omega, by simp only; omega, hsr.1, hsr.2⟩ (by simp only; omega), drop_by l' i h0 hi]
      have e1 : (i + 1).toNat = i.toNat + 1 := by omega
      simp only [e1, List.foldl_cons, crcStep]
    · rw [if_neg hi, List.drop_of_length_le (by omega)]
      rfl

/-! ### Copies -/
theorem toByteS_eq (l : List Int) (hl : l.length ≤ 1099511627776) : F_laws_toByteS l = some l := by
  unfold F_laws_toByteS L_laws_toByteS_3
  rw [if_pos (by omega), if_pos (Int.le_refl _), if_pos (by simp; omega)]
  rw [loop_fuel (fun t : List Int × Int × List Int => t.1.length - t.2.1.toNat) (fun t => t.1 = l ∧ 0 ≤ t.2.1 ∧ t.2.1 ≤ l.length ∧ t.2.2.length = l.length) (fun t => some (t.2.2.take t.2.1.toNat ++ l.drop t.2.1.toNat)) ?_ (l, 0, _) ⟨rfl, by simp, by simp, by simp⟩ (by simp; omega)]
  · simp
  · rintro again ⟨l', i, o⟩ ⟨rfl, h0, h1, hlen⟩ hag
    simp only at h0 h1 hlen hl ⊢
    unfold S_laws_toByteS_3
    simp only [Bool.cond_eq_ite, decide_eq_true_eq, rd_by]
    by_cases hi : i < (l'.length : Int)
    · have hw : Go.IntKind.wrap .i64 (i + 1) = i + 1 := w64 (by omega) (by omega)
      rw [if_pos hi, if_pos h0, if_pos hi, if_pos h0, if_pos (by rw [hlen]; exact hi), hw]
      rw [hag (l', i + 1, o.set i.toNat (by_ l' i)) ⟨rfl, by simp only; omega, by simp only; omega, by simpa using hlen⟩ (by simp only; omega), drop_by l' i h0 hi]
      have e1 : (i + 1).toNat = i.toNat + 1 := by omega
      have hn : i.toNat < o.length := by omega
      simp only [e1]
      rw [List.take_succ_eq_append_getElem (by simpa using hn), List.take_set_of_le (Nat.le_refl _)]
      simp
    · have : i.toNat = l'.length := by omega
      rw [if_neg hi, List.drop_of_length_le (by omega), List.take_of_length_le (by omega)]
      simp
theorem eqByteS_refl (l : List Int) (hl : l.length ≤ 1099511627776) : F_laws_eqByteS (l, l) = some true := by
  unfold F_laws_eqByteS L_laws_eqByteS_4
  simp only [bne_self_eq_false, cond_false]
  rw [loop_fuel (fun t : List Int × List Int × Int => t.1.length - t.2.2.toNat) (fun t => t.1 = l ∧ t.2.1 = l ∧ 0 ≤ t.2.2 ∧ t.2.2 ≤ l.length) (fun _ => some true) ?_ (l, l, 0) ⟨rfl, rfl, by simp, by simp⟩ (by simp; omega)]
  rintro again ⟨a, b, i⟩ ⟨h1, h2, h0, h3⟩ hag
  simp only at h1 h2 h0 h3 ⊢
  subst h1 h2
  unfold S_laws_eqByteS_4
  simp only [Bool.cond_eq_ite, decide_eq_true_eq]
  by_cases hi : i < (b.length : Int)
  · have hw : Go.IntKind.wrap .i64 (i + 1) = i + 1 := w64 (by omega) (by omega)
    rw [if_pos hi, if_pos h0, if_pos hi, if_pos h0, if_pos hi, hw, hag (b, b, i + 1) ⟨rfl, rfl, by simp only; omega, by simp only; omega⟩ (by simp only; omega)]
    simp
  · rw [if_neg hi]
end Go.Proofs.Ytibkaphfhdmjlaa.Pl

