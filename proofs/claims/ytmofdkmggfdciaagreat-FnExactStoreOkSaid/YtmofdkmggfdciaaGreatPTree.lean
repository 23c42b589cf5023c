/- Base, Loops, Pool, Keys, Tree. No condition. -/
import Derived.Test.YtmofdkmggfdciaaGreatDO1
import Derived.Laws.BitsLemmas
set_option linter.all false
namespace Go.Proofs.YtmofdkmggfdciaaGreat.Pl
open Go.Proofs.YtmofdkmggfdciaaGreat.R Go.Proofs.YtmofdkmggfdciaaGreat.XO
theorem loop_lt {T R : Type} {step : (T → Option R) → T → Option R} (μ : T → Nat) (inv : T → Prop) (G : T → Option R)
    (h : ∀ again t, inv t → (∀ t', inv t' → μ t' < μ t → again t' = G t') → step again t = G t) : ∀ (n : Nat) (t : T), inv t → μ t < n → iter step n t = G t := by
  intro n
  induction n with
  | zero => intro t _ hn; omega
  | succ n ih =>
    intro t ht hn
    rw [iter]
    exact h _ t ht fun t' ht' hlt => ih t' ht' (by omega)
theorem loop_fuel {T R : Type} {step : (T → Option R) → T → Option R} (μ : T → Nat) (inv : T → Prop) (G : T → Option R)
    (h : ∀ again t, inv t → (∀ t', inv t' → μ t' < μ t → again t' = G t') → step again t = G t) (t : T) (ht : inv t) (hn : μ t < 18446744073709551616) : iter step FUEL t = G t :=
  loop_lt μ inv G h FUEL t ht (by rw [FUEL_eq]; exact hn)
theorem w64 {n : Int} (h0 : -9223372036854775808 ≤ n) (h1 : n ≤ 9223372036854775807) : Go.IntKind.wrap .i64 n = n := by
  rw [IntKind.wrap_i64]
  omega
def inR (x a b : Int) : Bool := decide (a ≤ x) && decide (x ≤ b)
theorem inR_iff {x a b : Int} : inR x a b = true ↔ a ≤ x ∧ x ≤ b := by simp [inR]
theorem wrap_small (n : Nat) (h : n < 9223372036854775808) : IntKind.i64.wrap (n : Int) = n := by
  rw [IntKind.wrap_i64]
  omega
theorem ofInt_toNat (x : Int) : ((BitVec.ofInt 64 x).toNat : Int) = x % 18446744073709551616 := by
  rw [BitVec.toNat_ofInt]
  omega
theorem and_mask (x : Int) (m : Nat) (j : Nat) (hj : j < 63) (hm : m = 2 ^ j - 1) : bits .and .i64 x m = x % (2 ^ j : Nat) := by
  have hd : (2 ^ j : Nat) ∣ 18446744073709551616 := by
    have : (18446744073709551616 : Nat) = 2 ^ j * 2 ^ (64 - j) := by rw [← Nat.pow_add, show j + (64 - j) = 64 by omega]
    rw [this]
    exact Nat.dvd_mul_right _ _
  have hlt : m < 18446744073709551616 := by
    have : 2 ^ j ≤ 2 ^ 64 := Nat.pow_le_pow_right (by omega) (by omega)
    have h1 : 0 < 2 ^ j := Nat.two_pow_pos j
    omega
  have hj63 : 2 ^ j < 9223372036854775808 := by
    have : 2 ^ j ≤ 2 ^ 62 := Nat.pow_le_pow_right (by omega) (by omega)
    omega
  show IntKind.i64.wrap ((BitVec.ofInt 64 x &&& BitVec.ofInt 64 (m : Int)).toNat : Int) = _
  rw [BitVec.toNat_and, BitVec.ofInt_natCast, BitVec.toNat_ofNat, Nat.mod_eq_of_lt hlt, hm, Nat.and_two_pow_sub_one_eq_mod]
  have h2 := Nat.mod_lt (BitVec.ofInt 64 x).toNat (Nat.two_pow_pos j)
  rw [wrap_small _ (by omega), Int.natCast_emod, ofInt_toNat]
  exact Int.emod_emod_of_dvd _ (Int.ofNat_dvd.2 hd)
theorem and255 (x : Int) : bits .and .i64 x 255 = x % 256 := and_mask x 255 8 (by omega) (by decide)
theorem and1 (x : Int) : bits .and .i64 x 1 = x % 2 := and_mask x 1 1 (by omega) (by decide)
theorem xor_nat (a b : Nat) (ha : a < 9223372036854775808) (hb : b < 9223372036854775808) : bits .xor .i64 (a : Int) (b : Int) = ((a ^^^ b : Nat) : Int) := by
  show IntKind.i64.wrap ((BitVec.ofInt 64 (a : Int) ^^^ BitVec.ofInt 64 (b : Int)).toNat : Int) = _
  rw [BitVec.toNat_xor, BitVec.ofInt_natCast, BitVec.ofInt_natCast, BitVec.toNat_ofNat, BitVec.toNat_ofNat, Nat.mod_eq_of_lt (by omega), Nat.mod_eq_of_lt (by omega)]
  exact wrap_small _ (Nat.xor_lt_two_pow (n := 63) ha hb)
theorem or_nat (a b : Nat) (ha : a < 9223372036854775808) (hb : b < 9223372036854775808) : bits .or .i64 (a : Int) (b : Int) = ((a ||| b : Nat) : Int) := by
  show IntKind.i64.wrap ((BitVec.ofInt 64 (a : Int) ||| BitVec.ofInt 64 (b : Int)).toNat : Int) = _
  rw [BitVec.toNat_or, BitVec.ofInt_natCast, BitVec.ofInt_natCast, BitVec.toNat_ofNat, BitVec.toNat_ofNat, Nat.mod_eq_of_lt (by omega), Nat.mod_eq_of_lt (by omega)]
  exact wrap_small _ (Nat.or_lt_two_pow (n := 63) ha hb)
theorem or_join (j : Nat) (hj : j ≤ 62) (a b : Int) (h0 : 0 ≤ a) (h1 : a * 2 ^ j < 9223372036854775808) (hb0 : 0 ≤ b) (hb1 : b < 2 ^ j) : bits .or .i64 (a * 2 ^ j) b = a * 2 ^ j + b := by
  obtain ⟨a, rfl⟩ := Int.eq_ofNat_of_zero_le h0
  obtain ⟨b, rfl⟩ := Int.eq_ofNat_of_zero_le hb0
  have e2 : ((2 : Int) ^ j) = ((2 ^ j : Nat) : Int) := by rw [Int.natCast_pow]; rfl
  have hb1' : b < 2 ^ j := by
    rw [e2] at hb1
    exact Int.ofNat_lt.1 hb1
  have e : (a : Int) * 2 ^ j = ((a * 2 ^ j : Nat) : Int) := by rw [e2, Int.natCast_mul]
  rw [e] at h1 ⊢
  have ha : a * 2 ^ j < 9223372036854775808 := Int.ofNat_lt.1 h1
  have hor : a * 2 ^ j ||| b = a * 2 ^ j + b := by
    rw [← Nat.shiftLeft_eq, Nat.shiftLeft_add_eq_or_of_lt hb1']
  have h62 : 2 ^ j ≤ 2 ^ 62 := Nat.pow_le_pow_right (by omega) hj
  have hbl : b < 9223372036854775808 := by omega
  rw [or_nat _ _ ha hbl, hor, Int.natCast_add]
theorem xor_range (x y : Int) (hx0 : 0 ≤ x) (hx1 : x < 4294967296) (hy0 : 0 ≤ y) (hy1 : y < 4294967296) : 0 ≤ bits .xor .i64 x y ∧ bits .xor .i64 x y < 4294967296 := by
  obtain ⟨a, rfl⟩ := Int.eq_ofNat_of_zero_le hx0
  obtain ⟨b, rfl⟩ := Int.eq_ofNat_of_zero_le hy0
  rw [xor_nat a b (by omega) (by omega)]
  have := Nat.xor_lt_two_pow (n := 32) (x := a) (y := b) (by omega) (by omega)
  omega
def isBytes (l : List Int) : Prop := ∀ x ∈ l, 0 ≤ x ∧ x < 256
def by_ (l : List Int) (i : Int) : Int := l.getD i.toNat 0
theorem by_range {l : List Int} (h : isBytes l) (i : Int) : 0 ≤ by_ l i ∧ by_ l i < 256 := by
  unfold by_
  rw [List.getD_eq_getElem?_getD]
  cases hl : l[i.toNat]? with
  | none => simp
  | some x => exact h x (List.mem_of_getElem? hl)
theorem isBytes_take {l : List Int} (h : isBytes l) (n : Nat) : isBytes (l.take n) := fun x hx => h x (List.mem_of_mem_take hx)
theorem isBytes_drop {l : List Int} (h : isBytes l) (n : Nat) : isBytes (l.drop n) := fun x hx => h x (List.mem_of_mem_drop hx)
theorem by_take {l : List Int} {n : Nat} {i : Int} (hi : i.toNat < n) : by_ (l.take n) i = by_ l i := by
  unfold by_
  rw [List.getD_eq_getElem?_getD, List.getD_eq_getElem?_getD, List.getElem?_take, if_pos hi]
def crcBit (x : Int) : Int := if x % 2 = 1 then bits .xor .i64 (x / 2) 2197175160 else x / 2
def crcBits : Nat → Int → Int
  | 0, x => x
  | n + 1, x => crcBits n (crcBit x)
def crcStep (x b : Int) : Int := crcBits 8 (bits .xor .i64 x b)
def crc (l : List Int) : Int := bits .xor .i64 (l.foldl crcStep 4294967295) 4294967295
theorem crcBit_range (x : Int) (h0 : 0 ≤ x) (h1 : x < 4294967296) : 0 ≤ crcBit x ∧ crcBit x < 4294967296 := by
  unfold crcBit
  split
  · exact xor_range _ _ (by omega) (by omega) (by omega) (by omega)
  · omega
theorem crcBits_range : ∀ (n : Nat) (x : Int), 0 ≤ x → x < 4294967296 → 0 ≤ crcBits n x ∧ crcBits n x < 4294967296
  | 0, _, h0, h1 => ⟨h0, h1⟩
  | n + 1, x, h0, h1 => crcBits_range n _ (crcBit_range x h0 h1).1 (crcBit_range x h0 h1).2
theorem crcStep_range (x b : Int) (h0 : 0 ≤ x) (h1 : x < 4294967296) (hb0 : 0 ≤ b) (hb1 : b < 256) : 0 ≤ crcStep x b ∧ crcStep x b < 4294967296 := by
  have := xor_range x b h0 h1 hb0 (by omega)
  exact crcBits_range 8 _ this.1 this.2
end Go.Proofs.YtmofdkmggfdciaaGreat.Pl
namespace Go.Proofs.YtmofdkmggfdciaaGreat.Pl
open Go.Proofs.YtmofdkmggfdciaaGreat.R Go.Proofs.YtmofdkmggfdciaaGreat.XO
theorem loop_prop {T R : Type} {step : (T → Option R) → T → Option R} (μ : T → Nat) (inv : T → Prop) (Q : T → Option R → Prop)
    (h : ∀ again t, inv t → (∀ t', inv t' → μ t' < μ t → Q t' (again t')) → Q t (step again t)) (t : T) (ht : inv t) (hn : μ t < 18446744073709551616) : Q t (iter step FUEL t) := by
  have key : ∀ (n : Nat) (t : T), inv t → μ t < n → Q t (iter step n t) := by
    intro n
    induction n with
    | zero => intro t _ hn; omega
    | succ n ih =>
      intro t ht hn
      rw [iter]
      exact h _ t ht fun t' ht' hlt => ih t' ht' (by omega)
  exact key FUEL t ht (by rw [FUEL_eq]; exact hn)
theorem getD_get {A : Type} (da : A) (l : List A) (i : Int) (h0 : 0 ≤ i) (h : i < l.length) : l.getD i.toNat da = l[i.toNat]'(by omega) := by
  rw [List.getD_eq_getElem?_getD, List.getElem?_eq_getElem (by omega)]
  rfl
theorem getD_mem {A : Type} (da : A) (l : List A) (i : Int) (h0 : 0 ≤ i) (h : i < l.length) : l.getD i.toNat da ∈ l := by
  rw [getD_get da l i h0 h]
  exact List.getElem_mem _
theorem drop_getD {A : Type} (da : A) (l : List A) (i : Int) (h0 : 0 ≤ i) (h : i < l.length) : l.drop i.toNat = l.getD i.toNat da :: l.drop (i + 1).toNat := by
  rw [getD_get da l i h0 h, show (i + 1).toNat = i.toNat + 1 by omega, ← List.drop_eq_getElem_cons]
theorem copy_loop {A R : Type} (da : A) {step : (List A × Int × List A → Option R) → List A × Int × List A → Option R} (k : List A → Option R) (l : List A) (hl : l.length ≤ 1099511627776)
    (h : ∀ again i o, 0 ≤ i → i < (l.length : Int) → o.length = l.length → step again (l, i, o) = again (l, i + 1, o.set i.toNat (l.getD i.toNat da)))
    (hd : ∀ again i o, ¬ i < (l.length : Int) → step again (l, i, o) = k o) (o : List A) (ho : o.length = l.length) : iter step FUEL (l, 0, o) = k l := by
  rw [loop_fuel (fun t : List A × Int × List A => t.1.length - t.2.1.toNat) (fun t => t.1 = l ∧ 0 ≤ t.2.1 ∧ t.2.1 ≤ l.length ∧ t.2.2.length = l.length) (fun t => k (t.2.2.take t.2.1.toNat ++ l.drop t.2.1.toNat)) ?_ (l, 0, o) ⟨rfl, by simp, by simp, ho⟩ (by simp; omega)]
  · simp
  · rintro again ⟨l', i, o⟩ ⟨rfl, h0, h1, hlen⟩ hag
    simp only at h0 h1 hlen hl ⊢
    by_cases hi : i < (l'.length : Int)
    · rw [h again i o h0 hi hlen, hag (l', i + 1, _) ⟨rfl, by simp only; omega, by simp only; omega, by simpa using hlen⟩ (by simp only; omega), drop_getD da l' i h0 hi]
      have e1 : (i + 1).toNat = i.toNat + 1 := by omega
      have hn : i.toNat < o.length := by omega
      simp only [e1]
      rw [List.take_succ_eq_append_getElem (by simpa using hn), List.take_set_of_le (Nat.le_refl _)]
      simp
    · have : i.toNat = l'.length := by omega
      rw [hd again i o hi, List.drop_of_length_le (by omega), List.take_of_length_le (by omega)]
      simp
theorem eq_loop {A R : Type} {step : (List A × List A × Int → Option R) → List A × List A × Int → Option R} (k : Unit → Option R) (l : List A) (hl : l.length ≤ 1099511627776)
    (h : ∀ again i, 0 ≤ i → i < (l.length : Int) → step again (l, l, i) = again (l, l, i + 1))
    (hd : ∀ again i, ¬ i < (l.length : Int) → step again (l, l, i) = k ()) : iter step FUEL (l, l, 0) = k () := by
  rw [loop_fuel (fun t : List A × List A × Int => t.1.length - t.2.2.toNat) (fun t => t.1 = l ∧ t.2.1 = l ∧ 0 ≤ t.2.2 ∧ t.2.2 ≤ l.length) (fun _ => k ()) ?_ (l, l, 0) ⟨rfl, rfl, by simp, by simp⟩ (by simp; omega)]
  rintro again ⟨a, b, i⟩ ⟨h1, h2, h0, h3⟩ hag
  simp only at h1 h2 h0 h3 ⊢
  subst h1 h2
  by_cases hi : i < (b.length : Int)
  · rw [h again i h0 hi]
    exact hag (b, b, i + 1) ⟨rfl, rfl, by simp only; omega, by simp only; omega⟩ (by simp only; omega)
  · exact hd again i hi
def sumW {A : Type} (w : A → Int) (l : List A) : Int := l.foldr (fun a s => w a + s) 0
theorem sumW_cons {A : Type} (w : A → Int) (a : A) (l : List A) : sumW w (a :: l) = w a + sumW w l := rfl
theorem sumW_mem {A : Type} {w : A → Int} (hw : ∀ a, 0 ≤ w a) : ∀ {l : List A} {a : A}, a ∈ l → w a ≤ sumW w l ∧ 0 ≤ sumW w l
  | b :: l, a, h => by
    have hs : 0 ≤ sumW w l := by
      clear h
      induction l with
      | nil => exact Int.le_refl _
      | cons c l ih => rw [sumW_cons]; have := hw c; omega
    rw [sumW_cons]
    have := hw b
    rcases List.mem_cons.1 h with rfl | h
    · omega
    · have := (sumW_mem hw h).1
      omega
theorem sumW_nonneg {A : Type} {w : A → Int} (hw : ∀ a, 0 ≤ w a) (l : List A) : 0 ≤ sumW w l := by
  induction l with
  | nil => exact Int.le_refl _
  | cons c l ih => rw [sumW_cons]; have := hw c; omega
def szOk (n w : Int) (o : Option Int) : Prop := ∃ r, o = some r ∧ (r < 0 ∨ (0 ≤ r ∧ r = n - w))
theorem sz_loop {A R : Type} (da : A) (w : A → Int) (f : A → Int → Option Int) {step : (List A × Int × Int → Option R) → List A × Int × Int → Option R} (k0 : Int × Int → Option R) (k1 : Int → Option R) (l : List A) (hl : l.length ≤ 1099511627776)
    (hw : ∀ a, 0 ≤ w a) (hf : ∀ a ∈ l, ∀ n, 0 ≤ n → n ≤ 1048576 → szOk n (w a) (f a n))
    (h : ∀ again n i r, 0 ≤ i → i < (l.length : Int) → f (l.getD i.toNat da) n = some r → step again (l, n, i) = if r < 0 then k0 (r, -1) else again (l, r, i + 1))
    (hd : ∀ again n i, ¬ i < (l.length : Int) → step again (l, n, i) = k1 n) (n : Int) (hn0 : 0 ≤ n) (hn1 : n ≤ 1048576) :
    (∃ r, iter step FUEL (l, n, 0) = k0 (r, -1)) ∨ (∃ r, 0 ≤ r ∧ r = n - sumW w l ∧ iter step FUEL (l, n, 0) = k1 r) := by
  have key := loop_prop (step := step) (fun t : List A × Int × Int => t.1.length - t.2.2.toNat) (fun t => t.1 = l ∧ 0 ≤ t.2.1 ∧ t.2.1 ≤ 1048576 ∧ 0 ≤ t.2.2 ∧ t.2.2 ≤ l.length)
    (fun t res => (∃ r, res = k0 (r, -1)) ∨ (∃ r, 0 ≤ r ∧ r = t.2.1 - sumW w (l.drop t.2.2.toNat) ∧ res = k1 r)) ?_ (l, n, 0) ⟨rfl, hn0, hn1, by simp, by simp⟩ (by simp; omega)
  · simpa using key
  · rintro again ⟨l', n, i⟩ ⟨rfl, a0, a1, h0, h1⟩ hag
    simp only at a0 a1 h0 h1 hl ⊢
    by_cases hi : i < (l'.length : Int)
    · obtain ⟨r, hr, hc⟩ := hf _ (getD_mem da l' i h0 hi) n a0 a1
      have := hw (l'.getD i.toNat da)
      rw [h again n i r h0 hi hr, drop_getD da l' i h0 hi, sumW_cons]
      rcases hc with hc | ⟨hc0, hc1⟩
      · rw [if_pos hc]
        exact .inl ⟨r, rfl⟩
      · rw [if_neg (by omega)]
        rcases hag (l', r, i + 1) ⟨rfl, hc0, by simp only; omega, by simp only; omega, by simp only; omega⟩ (by simp only; omega) with hh | ⟨r', q0, q1, q2⟩
        · exact .inl hh
        · exact .inr ⟨r', q0, by simp only at q1; omega, q2⟩
    · rw [hd again n i hi, List.drop_of_length_le (by omega)]
      exact .inr ⟨n, a0, by simp [sumW], rfl⟩
end Go.Proofs.YtmofdkmggfdciaaGreat.Pl
namespace Go.Proofs.YtmofdkmggfdciaaGreat.Pl
open Go.Proofs.YtmofdkmggfdciaaGreat.R Go.Proofs.YtmofdkmggfdciaaGreat.XO
theorem toIntS_eq (l : List E_i64) (hl : l.length ≤ 1048576) : F_laws_toIntS l = some l := by
  unfold F_laws_toIntS L_laws_toIntS_3
  rw [if_pos (by omega), if_pos (Int.le_refl _), if_pos (by omega)]
  refine copy_loop z_i64 (fun x => some x) l (by omega) ?_ ?_ _ (by simp)
  · intro again i o h0 h1 h2
    unfold S_laws_toIntS_3
    have hw : Go.IntKind.wrap .i64 (i + 1) = i + 1 := w64 (by omega) (by omega)
    have h3 : i < (o.length : Int) := by omega
    simp only [Bool.cond_eq_ite, decide_eq_true_eq, h0, h1, h3, if_true, hw, if_true, Option.bind_some]
    rfl
  · intro again i o hi
    unfold S_laws_toIntS_3
    simp only [Bool.cond_eq_ite, decide_eq_true_eq, if_neg hi]
theorem toKeyS_eq (l : List E_Key) (hl : l.length ≤ 1048576) : F_laws_toKeyS l = some l := by
  unfold F_laws_toKeyS L_laws_toKeyS_3
  rw [if_pos (by omega), if_pos (Int.le_refl _), if_pos (by omega)]
  refine copy_loop z_Key (fun x => some x) l (by omega) ?_ ?_ _ (by simp)
  · intro again i o h0 h1 h2
    unfold S_laws_toKeyS_3
    have hw : Go.IntKind.wrap .i64 (i + 1) = i + 1 := w64 (by omega) (by omega)
    have h3 : i < (o.length : Int) := by omega
    simp only [Bool.cond_eq_ite, decide_eq_true_eq, h0, h1, h3, if_true, hw, F_laws_toKey, Option.bind_some]
    rfl
  · intro again i o hi
    unfold S_laws_toKeyS_3
    simp only [Bool.cond_eq_ite, decide_eq_true_eq, if_neg hi]
theorem toAgeS_eq (l : List E_Age) (hl : l.length ≤ 1048576) : F_laws_toAgeS l = some l := by
  unfold F_laws_toAgeS L_laws_toAgeS_3
  rw [if_pos (by omega), if_pos (Int.le_refl _), if_pos (by omega)]
  refine copy_loop z_Age (fun x => some x) l (by omega) ?_ ?_ _ (by simp)
  · intro again i o h0 h1 h2
    unfold S_laws_toAgeS_3
    have hw : Go.IntKind.wrap .i64 (i + 1) = i + 1 := w64 (by omega) (by omega)
    have h3 : i < (o.length : Int) := by omega
    simp only [Bool.cond_eq_ite, decide_eq_true_eq, h0, h1, h3, if_true, hw, F_laws_toAge, Option.bind_some]
    rfl
  · intro again i o hi
    unfold S_laws_toAgeS_3
    simp only [Bool.cond_eq_ite, decide_eq_true_eq, if_neg hi]
theorem toCellS_eq (l : List E_Cell) (hl : l.length ≤ 1048576) : F_laws_toCellS l = some l := by
  unfold F_laws_toCellS L_laws_toCellS_3
  rw [if_pos (by omega), if_pos (Int.le_refl _), if_pos (by omega)]
  refine copy_loop z_Cell (fun x => some x) l (by omega) ?_ ?_ _ (by simp)
  · intro again i o h0 h1 h2
    unfold S_laws_toCellS_3
    have hw : Go.IntKind.wrap .i64 (i + 1) = i + 1 := w64 (by omega) (by omega)
    have h3 : i < (o.length : Int) := by omega
    simp only [Bool.cond_eq_ite, decide_eq_true_eq, h0, h1, h3, if_true, hw, F_laws_toCell, Option.bind_some]
    rfl
  · intro again i o hi
    unfold S_laws_toCellS_3
    simp only [Bool.cond_eq_ite, decide_eq_true_eq, if_neg hi]
theorem toVolS_eq (l : List E_Vol) (hl : l.length ≤ 1048576) : F_laws_toVolS l = some l := by
  unfold F_laws_toVolS L_laws_toVolS_3
  rw [if_pos (by omega), if_pos (Int.le_refl _), if_pos (by omega)]
  refine copy_loop z_Vol (fun x => some x) l (by omega) ?_ ?_ _ (by simp)
  · intro again i o h0 h1 h2
    unfold S_laws_toVolS_3
    have hw : Go.IntKind.wrap .i64 (i + 1) = i + 1 := w64 (by omega) (by omega)
    have h3 : i < (o.length : Int) := by omega
    simp only [Bool.cond_eq_ite, decide_eq_true_eq, h0, h1, h3, if_true, hw, F_laws_toVol, Option.bind_some]
    rfl
  · intro again i o hi
    unfold S_laws_toVolS_3
    simp only [Bool.cond_eq_ite, decide_eq_true_eq, if_neg hi]
theorem toKeySS_eq (l : List E_s_Key) (hl : l.length ≤ 1048576) (hm : ∀ a ∈ l, F_laws_toKeyS a = some a) : F_laws_toKeySS l = some l := by
  unfold F_laws_toKeySS L_laws_toKeySS_3
  rw [if_pos (by omega), if_pos (Int.le_refl _), if_pos (by omega)]
  refine copy_loop z_s_Key (fun x => some x) l (by omega) ?_ ?_ _ (by simp)
  · intro again i o h0 h1 h2
    unfold S_laws_toKeySS_3
    have hw : Go.IntKind.wrap .i64 (i + 1) = i + 1 := w64 (by omega) (by omega)
    have h3 : i < (o.length : Int) := by omega
    have e : F_laws_toKeyS (rd_s_LKey l i) = some (rd_s_LKey l i) := hm _ (getD_mem z_s_Key l i h0 h1)
    simp only [Bool.cond_eq_ite, decide_eq_true_eq, h0, h1, h3, if_true, hw, e, Option.bind_some]
    rfl
  · intro again i o hi
    unfold S_laws_toKeySS_3
    simp only [Bool.cond_eq_ite, decide_eq_true_eq, if_neg hi]
theorem toNodeS_eq (l : List E_Node) (hl : l.length ≤ 1048576) (hm : ∀ a ∈ l, F_laws_toNode a = some a) : F_laws_toNodeS l = some l := by
  unfold F_laws_toNodeS L_laws_toNodeS_3
  rw [if_pos (by omega), if_pos (Int.le_refl _), if_pos (by omega)]
  refine copy_loop z_Node (fun x => some x) l (by omega) ?_ ?_ _ (by simp)
  · intro again i o h0 h1 h2
    unfold S_laws_toNodeS_3
    have hw : Go.IntKind.wrap .i64 (i + 1) = i + 1 := w64 (by omega) (by omega)
    have h3 : i < (o.length : Int) := by omega
    have e : F_laws_toNode (rd_LNode l i) = some (rd_LNode l i) := hm _ (getD_mem z_Node l i h0 h1)
    simp only [Bool.cond_eq_ite, decide_eq_true_eq, h0, h1, h3, if_true, hw, e, Option.bind_some]
    rfl
  · intro again i o hi
    unfold S_laws_toNodeS_3
    simp only [Bool.cond_eq_ite, decide_eq_true_eq, if_neg hi]
theorem eqIntS_refl (l : List E_i64) (hl : l.length ≤ 1048576) : F_laws_eqIntS (l, l) = some true := by
  unfold F_laws_eqIntS L_laws_eqIntS_4
  simp only [bne_self_eq_false, cond_false]
  refine eq_loop (fun _ => some true) l (by omega) ?_ ?_
  · intro again i h0 h1
    unfold S_laws_eqIntS_4
    have hw : Go.IntKind.wrap .i64 (i + 1) = i + 1 := w64 (by omega) (by omega)
    simp only [Bool.cond_eq_ite, decide_eq_true_eq, h0, h1, if_true, hw, if_true, Option.bind_some, bne_self_eq_false, beq_self_eq_true, Bool.not_true, Bool.false_eq_true, if_false]
  · intro again i hi
    unfold S_laws_eqIntS_4
    simp only [Bool.cond_eq_ite, decide_eq_true_eq, if_neg hi]
theorem eqKeyS_refl (l : List E_Key) (hl : l.length ≤ 1048576) : F_laws_eqKeyS (l, l) = some true := by
  unfold F_laws_eqKeyS L_laws_eqKeyS_4
  simp only [bne_self_eq_false, cond_false]
  refine eq_loop (fun _ => some true) l (by omega) ?_ ?_
  · intro again i h0 h1
    unfold S_laws_eqKeyS_4
    have hw : Go.IntKind.wrap .i64 (i + 1) = i + 1 := w64 (by omega) (by omega)
    simp only [Bool.cond_eq_ite, decide_eq_true_eq, h0, h1, if_true, hw, F_laws_eqKey, Option.bind_some, bne_self_eq_false, beq_self_eq_true, Bool.not_true, Bool.false_eq_true, if_false]
  · intro again i hi
    unfold S_laws_eqKeyS_4
    simp only [Bool.cond_eq_ite, decide_eq_true_eq, if_neg hi]
theorem eqAgeS_refl (l : List E_Age) (hl : l.length ≤ 1048576) : F_laws_eqAgeS (l, l) = some true := by
  unfold F_laws_eqAgeS L_laws_eqAgeS_4
  simp only [bne_self_eq_false, cond_false]
  refine eq_loop (fun _ => some true) l (by omega) ?_ ?_
  · intro again i h0 h1
    unfold S_laws_eqAgeS_4
    have hw : Go.IntKind.wrap .i64 (i + 1) = i + 1 := w64 (by omega) (by omega)
    simp only [Bool.cond_eq_ite, decide_eq_true_eq, h0, h1, if_true, hw, F_laws_eqAge, Option.bind_some, bne_self_eq_false, beq_self_eq_true, Bool.not_true, Bool.false_eq_true, if_false]
  · intro again i hi
    unfold S_laws_eqAgeS_4
    simp only [Bool.cond_eq_ite, decide_eq_true_eq, if_neg hi]
theorem eqCellS_refl (l : List E_Cell) (hl : l.length ≤ 1048576) : F_laws_eqCellS (l, l) = some true := by
  unfold F_laws_eqCellS L_laws_eqCellS_4
  simp only [bne_self_eq_false, cond_false]
  refine eq_loop (fun _ => some true) l (by omega) ?_ ?_
  · intro again i h0 h1
    unfold S_laws_eqCellS_4
    have hw : Go.IntKind.wrap .i64 (i + 1) = i + 1 := w64 (by omega) (by omega)
    simp only [Bool.cond_eq_ite, decide_eq_true_eq, h0, h1, if_true, hw, F_laws_eqCell, Option.bind_some, bne_self_eq_false, beq_self_eq_true, Bool.not_true, Bool.false_eq_true, if_false]
  · intro again i hi
    unfold S_laws_eqCellS_4
    simp only [Bool.cond_eq_ite, decide_eq_true_eq, if_neg hi]
theorem eqVolS_refl (l : List E_Vol) (hl : l.length ≤ 1048576) : F_laws_eqVolS (l, l) = some true := by
  unfold F_laws_eqVolS L_laws_eqVolS_4
  simp only [bne_self_eq_false, cond_false]
  refine eq_loop (fun _ => some true) l (by omega) ?_ ?_
  · intro again i h0 h1
    unfold S_laws_eqVolS_4
    have hw : Go.IntKind.wrap .i64 (i + 1) = i + 1 := w64 (by omega) (by omega)
    simp only [Bool.cond_eq_ite, decide_eq_true_eq, h0, h1, if_true, hw, F_laws_eqVol, Option.bind_some, bne_self_eq_false, beq_self_eq_true, Bool.not_true, Bool.false_eq_true, if_false]
  · intro again i hi
    unfold S_laws_eqVolS_4
    simp only [Bool.cond_eq_ite, decide_eq_true_eq, if_neg hi]
theorem eqKeySS_refl (l : List E_s_Key) (hl : l.length ≤ 1048576) (hm : ∀ a ∈ l, F_laws_eqKeyS (a, a) = some true) : F_laws_eqKeySS (l, l) = some true := by
  unfold F_laws_eqKeySS L_laws_eqKeySS_4
  simp only [bne_self_eq_false, cond_false]
  refine eq_loop (fun _ => some true) l (by omega) ?_ ?_
  · intro again i h0 h1
    unfold S_laws_eqKeySS_4
    have hw : Go.IntKind.wrap .i64 (i + 1) = i + 1 := w64 (by omega) (by omega)
    have e : F_laws_eqKeyS (rd_s_Key l i, rd_s_Key l i) = some true := hm _ (getD_mem z_s_Key l i h0 h1)
    simp only [Bool.cond_eq_ite, decide_eq_true_eq, h0, h1, if_true, hw, e, Option.bind_some, bne_self_eq_false, beq_self_eq_true, Bool.not_true, Bool.false_eq_true, if_false]
  · intro again i hi
    unfold S_laws_eqKeySS_4
    simp only [Bool.cond_eq_ite, decide_eq_true_eq, if_neg hi]
theorem eqNodeS_refl (l : List E_Node) (hl : l.length ≤ 1048576) (hm : ∀ a ∈ l, F_laws_eqNode (a, a) = some true) : F_laws_eqNodeS (l, l) = some true := by
  unfold F_laws_eqNodeS L_laws_eqNodeS_4
  simp only [bne_self_eq_false, cond_false]
  refine eq_loop (fun _ => some true) l (by omega) ?_ ?_
  · intro again i h0 h1
    unfold S_laws_eqNodeS_4
    have hw : Go.IntKind.wrap .i64 (i + 1) = i + 1 := w64 (by omega) (by omega)
    have e : F_laws_eqNode (rd_Node l i, rd_Node l i) = some true := hm _ (getD_mem z_Node l i h0 h1)
    simp only [Bool.cond_eq_ite, decide_eq_true_eq, h0, h1, if_true, hw, e, Option.bind_some, bne_self_eq_false, beq_self_eq_true, Bool.not_true, Bool.false_eq_true, if_false]
  · intro again i hi
    unfold S_laws_eqNodeS_4
    simp only [Bool.cond_eq_ite, decide_eq_true_eq, if_neg hi]
theorem sz_flat (n : Int) (m : Nat) (hn0 : 0 ≤ n) (hn1 : n ≤ 1048576) (hm : m ≤ maxLen) : szOk n m (bif decide (Go.IntKind.wrap .i64 (n - ((m : Nat) : Int)) < (0 : Int)) then some (-1 : Int) else some (Go.IntKind.wrap .i64 (n - ((m : Nat) : Int)))) := by
  simp only [maxLen] at hm
  rw [w64 (n := n - m) (by omega) (by omega)]
  simp only [Bool.cond_eq_ite, decide_eq_true_eq]
  by_cases h : n - m < 0
  · rw [if_pos h]
    exact ⟨-1, rfl, .inl (by omega)⟩
  · rw [if_neg h]
    exact ⟨_, rfl, .inr ⟨by omega, rfl⟩⟩
theorem szIntS_ok (l : List E_i64) (hl : l.length ≤ maxLen) (n : Int) (hn0 : 0 ≤ n) (hn1 : n ≤ 1048576) : szOk n (l.length : Nat) (F_laws_szIntS (l, n)) := sz_flat n l.length hn0 hn1 hl
theorem szKeyS_ok (l : List E_LKey) (hl : l.length ≤ maxLen) (n : Int) (hn0 : 0 ≤ n) (hn1 : n ≤ 1048576) : szOk n (l.length : Nat) (F_laws_szKeyS (l, n)) := sz_flat n l.length hn0 hn1 hl
theorem szAgeS_ok (l : List E_LAge) (hl : l.length ≤ maxLen) (n : Int) (hn0 : 0 ≤ n) (hn1 : n ≤ 1048576) : szOk n (l.length : Nat) (F_laws_szAgeS (l, n)) := sz_flat n l.length hn0 hn1 hl
theorem szCellS_ok (l : List E_LCell) (hl : l.length ≤ maxLen) (n : Int) (hn0 : 0 ≤ n) (hn1 : n ≤ 1048576) : szOk n (l.length : Nat) (F_laws_szCellS (l, n)) := sz_flat n l.length hn0 hn1 hl
theorem szKeySS_ok (l : List E_s_LKey) (hl : l.length ≤ maxLen) (hm : ∀ a ∈ l, List.length a ≤ maxLen) (n : Int) (hn0 : 0 ≤ n) (hn1 : n ≤ 1048576) : szOk n ((l.length : Int) + sumW (fun a : E_s_LKey => (List.length a : Int)) l) (F_laws_szKeySS (l, n)) := by
  simp only [maxLen] at hl
  unfold F_laws_szKeySS L_laws_szKeySS_5
  simp only [Bool.cond_eq_ite, decide_eq_true_eq]
  rw [w64 (n := n - l.length) (by omega) (by omega)]
  by_cases h : n - (l.length : Int) < 0
  · rw [if_pos h]
    exact ⟨-1, rfl, .inl (by omega)⟩
  · rw [if_neg h]
    have hs : ∀ again (n i r : Int), 0 ≤ i → i < (l.length : Int) → F_laws_szKeyS (l.getD i.toNat z_s_LKey, n) = some r → S_laws_szKeySS_5 (fun x2 => some x2.2) (fun x3 => some x3) again (l, n, i) = if r < 0 then some (-1 : Int) else again (l, r, i + 1) := by
      intro again n i r h0 h1 hr
      unfold S_laws_szKeySS_5
      have hw : Go.IntKind.wrap .i64 (i + 1) = i + 1 := w64 (by omega) (by omega)
      have hr' : F_laws_szKeyS ((rd_s_LKey l i), n) = some r := hr
      simp only [Bool.cond_eq_ite, decide_eq_true_eq, h0, h1, if_true, hw, hr', Option.bind_some]
    have hd : ∀ again (n i : Int), ¬ i < (l.length : Int) → S_laws_szKeySS_5 (fun x2 => some x2.2) (fun x3 => some x3) again (l, n, i) = some n := by
      intro again n i hi
      unfold S_laws_szKeySS_5
      simp only [Bool.cond_eq_ite, decide_eq_true_eq, if_neg hi]
    rcases sz_loop z_s_LKey (fun a : E_s_LKey => (List.length a : Int)) (fun a n => F_laws_szKeyS (a, n)) (step := S_laws_szKeySS_5 (fun x2 => some x2.2) (fun x3 => some x3)) (fun x2 => some x2.2) (fun x3 => some x3) l (by omega) (fun a => by exact Int.natCast_nonneg _) (fun a ha n h0 h1 => szKeyS_ok a (hm a ha) n h0 h1) hs hd (n - l.length) (by omega) (by omega) with ⟨r, e⟩ | ⟨r, r0, r1, e⟩
    · rw [e]
      exact ⟨-1, rfl, .inl (by omega)⟩
    · rw [e]
      exact ⟨r, rfl, .inr ⟨r0, by omega⟩⟩
def wSets (l : List E_s_LKey) : Int := (List.length l : Int) + sumW (fun a : E_s_LKey => (List.length a : Int)) l
theorem wSets_nonneg (l : List E_s_LKey) : 0 ≤ wSets l := by
  have := sumW_nonneg (w := fun a : E_s_LKey => (List.length a : Int)) (fun a => Int.natCast_nonneg _) l
  unfold wSets
  omega
theorem szNode_ok (l : List E_s_LKey) (hl : l.length ≤ maxLen) (hm : ∀ a ∈ l, List.length a ≤ maxLen) (n : Int) (hn0 : 0 ≤ n) (hn1 : n ≤ 1048576) : szOk n (wSets l) (F_laws_szNode (l, n)) := by
  obtain ⟨r, hr, hc⟩ := szKeySS_ok l hl hm n hn0 hn1
  unfold F_laws_szNode
  simp only [hr, Option.bind_some, Bool.cond_eq_ite, decide_eq_true_eq]
  rcases hc with hc | ⟨h0, h1⟩
  · rw [if_pos hc]
    exact ⟨-1, rfl, .inl (by omega)⟩
  · rw [if_neg (by omega)]
    exact ⟨r, rfl, .inr ⟨h0, h1⟩⟩
theorem szNodeS_ok (l : List E_LNode) (hl : l.length ≤ maxLen) (hm : ∀ a ∈ l, List.length a ≤ maxLen ∧ ∀ b ∈ (show List E_s_LKey from a), List.length b ≤ maxLen) (n : Int) (hn0 : 0 ≤ n) (hn1 : n ≤ 1048576) : szOk n ((l.length : Int) + sumW (wSets) l) (F_laws_szNodeS (l, n)) := by
  simp only [maxLen] at hl
  unfold F_laws_szNodeS L_laws_szNodeS_5
  simp only [Bool.cond_eq_ite, decide_eq_true_eq]
  rw [w64 (n := n - l.length) (by omega) (by omega)]
  by_cases h : n - (l.length : Int) < 0
  · rw [if_pos h]
    exact ⟨-1, rfl, .inl (by omega)⟩
  · rw [if_neg h]
    have hs : ∀ again (n i r : Int), 0 ≤ i → i < (l.length : Int) → F_laws_szNode (l.getD i.toNat z_LNode, n) = some r → S_laws_szNodeS_5 (fun x2 => some x2.2) (fun x3 => some x3) again (l, n, i) = if r < 0 then some (-1 : Int) else again (l, r, i + 1) := by
      intro again n i r h0 h1 hr
      unfold S_laws_szNodeS_5
      have hw : Go.IntKind.wrap .i64 (i + 1) = i + 1 := w64 (by omega) (by omega)
      have hr' : F_laws_szNode ((rd_LNode l i), n) = some r := hr
      simp only [Bool.cond_eq_ite, decide_eq_true_eq, h0, h1, if_true, hw, hr', Option.bind_some]
    have hd : ∀ again (n i : Int), ¬ i < (l.length : Int) → S_laws_szNodeS_5 (fun x2 => some x2.2) (fun x3 => some x3) again (l, n, i) = some n := by
      intro again n i hi
      unfold S_laws_szNodeS_5
      simp only [Bool.cond_eq_ite, decide_eq_true_eq, if_neg hi]
    rcases sz_loop z_LNode (wSets) (fun a n => F_laws_szNode (a, n)) (step := S_laws_szNodeS_5 (fun x2 => some x2.2) (fun x3 => some x3)) (fun x2 => some x2.2) (fun x3 => some x3) l (by omega) (fun a => by exact wSets_nonneg a) (fun a ha n h0 h1 => szNode_ok a (hm a ha).1 (hm a ha).2 n h0 h1) hs hd (n - l.length) (by omega) (by omega) with ⟨r, e⟩ | ⟨r, r0, r1, e⟩
    · rw [e]
      exact ⟨-1, rfl, .inl (by omega)⟩
    · rw [e]
      exact ⟨r, rfl, .inr ⟨r0, by omega⟩⟩
theorem szVolS_ok (l : List E_LVol) (hl : l.length ≤ maxLen) (hm : ∀ a ∈ l, ByteArray.size a.1 ≤ maxLen) (n : Int) (hn0 : 0 ≤ n) (hn1 : n ≤ 1048576) : szOk n ((l.length : Int) + sumW (fun a : E_LVol => (ByteArray.size a.1 : Int)) l) (F_laws_szVolS (l, n)) := by
  simp only [maxLen] at hl
  unfold F_laws_szVolS L_laws_szVolS_5
  simp only [Bool.cond_eq_ite, decide_eq_true_eq]
  rw [w64 (n := n - l.length) (by omega) (by omega)]
  by_cases h : n - (l.length : Int) < 0
  · rw [if_pos h]
    exact ⟨-1, rfl, .inl (by omega)⟩
  · rw [if_neg h]
    have hs : ∀ again (n i r : Int), 0 ≤ i → i < (l.length : Int) → F_laws_szVol ((l.getD i.toNat z_LVol).1, (l.getD i.toNat z_LVol).2.1, (l.getD i.toNat z_LVol).2.2.1, (l.getD i.toNat z_LVol).2.2.2, n) = some r → S_laws_szVolS_5 (fun x2 => some x2.2) (fun x3 => some x3) again (l, n, i) = if r < 0 then some (-1 : Int) else again (l, r, i + 1) := by
      intro again n i r h0 h1 hr
      unfold S_laws_szVolS_5
      have hw : Go.IntKind.wrap .i64 (i + 1) = i + 1 := w64 (by omega) (by omega)
      have hr' : F_laws_szVol ((rd_LVol l i).1, (rd_LVol l i).2.1, (rd_LVol l i).2.2.1, (rd_LVol l i).2.2.2, n) = some r := hr
      simp only [Bool.cond_eq_ite, decide_eq_true_eq, h0, h1, if_true, hw, hr', Option.bind_some]
    have hd : ∀ again (n i : Int), ¬ i < (l.length : Int) → S_laws_szVolS_5 (fun x2 => some x2.2) (fun x3 => some x3) again (l, n, i) = some n := by
      intro again n i hi
      unfold S_laws_szVolS_5
      simp only [Bool.cond_eq_ite, decide_eq_true_eq, if_neg hi]
    rcases sz_loop z_LVol (fun a : E_LVol => (ByteArray.size a.1 : Int)) (fun a n => F_laws_szVol (a.1, a.2.1, a.2.2.1, a.2.2.2, n)) (step := S_laws_szVolS_5 (fun x2 => some x2.2) (fun x3 => some x3)) (fun x2 => some x2.2) (fun x3 => some x3) l (by omega) (fun a => by exact Int.natCast_nonneg _) (fun a ha n h0 h1 => sz_flat n (ByteArray.size a.1) h0 h1 (hm a ha)) hs hd (n - l.length) (by omega) (by omega) with ⟨r, e⟩ | ⟨r, r0, r1, e⟩
    · rw [e]
      exact ⟨-1, rfl, .inl (by omega)⟩
    · rw [e]
      exact ⟨r, rfl, .inr ⟨r0, by omega⟩⟩
end Go.Proofs.YtmofdkmggfdciaaGreat.Pl
namespace Go.Proofs.YtmofdkmggfdciaaGreat.Pl
open Go.Proofs.YtmofdkmggfdciaaGreat.R Go.Proofs.YtmofdkmggfdciaaGreat.XO
theorem fold_loop {T A S R : Type} {step : (T → Option R) → T → Option R} (mk : Int → S → T) (k : S → Option R) (da : A) (g : S → A → S) (l : List A) (hl : l.length ≤ 1099511627776) (I : Nat → S → Prop)
    (h : ∀ again i s, 0 ≤ i → i < (l.length : Int) → I i.toNat s → step again (mk i s) = again (mk (i + 1) (g s (l.getD i.toNat da))) ∧ I (i.toNat + 1) (g s (l.getD i.toNat da)))
    (hd : ∀ again i s, ¬ i < (l.length : Int) → step again (mk i s) = k s) (s : S) (hs : I 0 s) : iter step FUEL (mk 0 s) = k (l.foldl g s) := by
  have key : ∀ (n : Nat) (i : Int) (s : S), 0 ≤ i → i ≤ l.length → I i.toNat s → l.length - i.toNat < n → iter step n (mk i s) = k ((l.drop i.toNat).foldl g s) := by
    intro n
    induction n with
    | zero => intro i s _ _ _ hn; omega
    | succ n ih =>
      intro i s h0 h1 hI hn
      rw [iter]
      by_cases hi : i < (l.length : Int)
      · obtain ⟨e, hI'⟩ := h (iter step n) i s h0 hi hI
        have e1 : (i + 1).toNat = i.toNat + 1 := by omega
        rw [e, ih (i + 1) _ (by omega) (by omega) (by rw [e1]; exact hI') (by omega), drop_getD da l i h0 hi]
        rfl
      · rw [hd _ i s hi, List.drop_of_length_le (by omega)]
        rfl
  have := key FUEL 0 s (by omega) (by omega) hs (by rw [FUEL_eq]; simp; omega)
  simpa using this
def lessK (c k : E_Key) : Bool := if c.1 < k.1 then true else if c.1 = k.1 then decide (c.2.1 < k.2.1) else false
def sameK (c k : E_Key) : Bool := decide (c.1 = k.1) && decide (c.2.1 = k.2.1)
theorem spec_LessKey_eq (a1 a2 a3 a4 a5 b1 b2 b3 b4 b5 : Int) : F_spec_LessKey (a1, a2, a3, a4, a5, b1, b2, b3, b4, b5) = some (lessK (a1, a2, a3, a4, a5) (b1, b2, b3, b4, b5)) := by
  unfold F_spec_LessKey lessK
  by_cases h : a1 = b1
  · subst h
    simp
  · have hb : (a1 == b1) = false := by simpa using h
    have hb' : (a1 != b1) = true := by simpa using h
    by_cases h2 : a1 < b1 <;> simp [h, h2, hb, hb']
theorem impl_LessKey_eq (a1 a2 a3 a4 a5 b1 b2 b3 b4 b5 : Int) : F_impl_LessKey (a1, a2, a3, a4, a5, b1, b2, b3, b4, b5) = some (lessK (a1, a2, a3, a4, a5) (b1, b2, b3, b4, b5)) := by
  unfold F_impl_LessKey lessK
  by_cases h : a1 = b1
  · subst h
    simp
  · have hb : (a1 == b1) = false := by simpa using h
    have hb' : (a1 != b1) = true := by simpa using h
    by_cases h2 : a1 < b1 <;> simp [h, h2, hb, hb']
theorem spec_SameSpot_eq (a1 a2 a3 a4 a5 b1 b2 b3 b4 b5 : Int) : F_spec_SameSpot (a1, a2, a3, a4, a5, b1, b2, b3, b4, b5) = some (sameK (a1, a2, a3, a4, a5) (b1, b2, b3, b4, b5)) := by
  unfold F_spec_SameSpot sameK
  have e1 : (a1 == b1) = decide (a1 = b1) := rfl
  have e2 : (a2 == b2) = decide (a2 = b2) := rfl
  simp only [e1, e2]
  cases decide (a1 = b1) <;> cases decide (a2 = b2) <;> rfl
theorem impl_SameSpot_eq (a1 a2 a3 a4 a5 b1 b2 b3 b4 b5 : Int) : F_impl_SameSpot (a1, a2, a3, a4, a5, b1, b2, b3, b4, b5) = some (sameK (a1, a2, a3, a4, a5) (b1, b2, b3, b4, b5)) := by
  unfold F_impl_SameSpot sameK
  have e1 : (a1 == b1) = decide (a1 = b1) := rfl
  have e2 : (a2 == b2) = decide (a2 = b2) := rfl
  simp only [e1, e2]
  cases decide (a1 = b1) <;> cases decide (a2 = b2) <;> rfl
theorem lt40 {n k : Nat} (h : n ≤ 1073741825) (hk : (1073741825 + k) * 40 < 140737488355328) : (n + k) * 40 < 140737488355328 := by omega
def spOne (k : E_Key) (s : Bool × List E_Key) (c : E_Key) : Bool × List E_Key :=
  if s.1 = false ∧ lessK c k = false then (true, if sameK c k then s.2 ++ [k] else s.2 ++ [k] ++ [c]) else (s.1, if sameK c k then s.2 else s.2 ++ [c])
def setPut (l : List E_Key) (k : E_Key) : List E_Key :=
  let r := l.foldl (spOne k) (false, [])
  if r.1 then r.2 else r.2 ++ [k]
def pN (p : Bool) : Nat := if p then 1 else 0
theorem spOne_len (k : E_Key) (s : Bool × List E_Key) (c : E_Key) : (spOne k s c).2.length + pN s.1 ≤ s.2.length + 1 + pN (spOne k s c).1 ∧ pN (spOne k s c).1 ≤ 1 := by
  unfold spOne pN
  obtain ⟨p, o⟩ := s
  cases p <;> cases lessK c k <;> cases sameK c k <;> simp
theorem spFold_len (k : E_Key) : ∀ (l : List E_Key) (s : Bool × List E_Key), (l.foldl (spOne k) s).2.length + pN s.1 ≤ s.2.length + l.length + pN (l.foldl (spOne k) s).1
  | [], s => by simp
  | c :: l, s => by
    have h1 := (spOne_len k s c).1
    have h2 := spFold_len k l (spOne k s c)
    simp only [List.foldl_cons, List.length_cons] at h2 ⊢
    omega
theorem setPut_len (l : List E_Key) (k : E_Key) : (setPut l k).length ≤ l.length + 1 := by
  have h := spFold_len k l (false, [])
  unfold setPut
  simp only [pN, List.length_nil, Bool.false_eq_true, if_false] at h ⊢
  cases hr : (l.foldl (spOne k) (false, [])).1 with
  | true =>
    rw [hr] at h
    simp at h ⊢
    omega
  | false =>
    rw [hr] at h
    simp at h ⊢
    omega
theorem spec_SetPut_step {R : Type} (k0 : Bool × Int × Int × Int × Int × Int × List E_Key → Option R) (again : T_spec_SetPut_4 → Option R) (l : List E_Key) (i : Int) (p : Bool) (a b c d e : Int) (o : List E_Key) (hl : l.length ≤ 1073741824) (h0 : 0 ≤ i) (h1 : i < (l.length : Int)) (ho : o.length ≤ 1073741825) :
    S_spec_SetPut_4 k0 again (l, p, i, a, b, c, d, e, o) = again (l, (spOne (a, b, c, d, e) (p, o) (l.getD i.toNat z_Key)).1, i + 1, a, b, c, d, e, (spOne (a, b, c, d, e) (p, o) (l.getD i.toNat z_Key)).2) := by
  have hw : Go.IntKind.wrap .i64 (i + 1) = i + 1 := w64 (by omega) (by omega)
  have c1 : (o.length + (0 + 1)) * 40 < 140737488355328 := lt40 ho (by decide)
  have c2 : (o.length + (0 + 1) + (0 + 1)) * 40 < 140737488355328 := by rw [Nat.add_assoc]; exact lt40 ho (by decide)
  obtain ⟨⟨x1, x2, x3, x4, x5⟩, hx⟩ : ∃ x, rd_Key l i = x := ⟨_, rfl⟩
  have hx' : l.getD i.toNat z_Key = (x1, x2, x3, x4, x5) := hx
  rw [hx']
  unfold S_spec_SetPut_4
  simp only [Bool.cond_eq_ite, decide_eq_true_eq, h0, h1, if_true, hw, hx, spec_LessKey_eq, spec_SameSpot_eq, Option.bind_some, List.length_append, List.length_cons, List.length_nil]
  unfold spOne
  generalize lessK (x1, x2, x3, x4, x5) (a, b, c, d, e) = q1
  generalize sameK (x1, x2, x3, x4, x5) (a, b, c, d, e) = q2
  simp only [c1, c2, if_true]
  cases p <;> cases q1 <;> cases q2 <;> rfl
theorem spec_SetPut_loop {R : Type} (k0 : Bool × Int × Int × Int × Int × Int × List E_Key → Option R) (l : List E_Key) (a b c d e : Int) (hl : l.length ≤ 1073741824) :
    L_spec_SetPut_4 k0 (l, false, 0, a, b, c, d, e, []) = k0 ((l.foldl (spOne (a, b, c, d, e)) (false, [])).1, a, b, c, d, e, (l.foldl (spOne (a, b, c, d, e)) (false, [])).2) := by
  unfold L_spec_SetPut_4
  refine fold_loop (step := S_spec_SetPut_4 k0) (fun (i : Int) (s : Bool × List E_Key) => (l, s.1, i, a, b, c, d, e, s.2)) (fun s => k0 (s.1, a, b, c, d, e, s.2)) z_Key (spOne (a, b, c, d, e)) l (by omega) (fun i s => s.2.length ≤ i + pN s.1) ?_ ?_ (false, []) (by simp)
  · rintro again i ⟨p, o⟩ h0 h1 hI
    have hp : pN p ≤ 1 := by cases p <;> decide
    have hI' : o.length ≤ i.toNat + pN p := hI
    clear hI
    refine ⟨spec_SetPut_step k0 again l i p a b c d e o hl h0 h1 (by omega), ?_⟩
    have ho := (spOne_len (a, b, c, d, e) (p, o) (l.getD i.toNat z_Key)).1
    show (spOne (a, b, c, d, e) (p, o) (l.getD i.toNat z_Key)).2.length ≤ i.toNat + 1 + pN (spOne (a, b, c, d, e) (p, o) (l.getD i.toNat z_Key)).1
    generalize (spOne (a, b, c, d, e) (p, o) (l.getD i.toNat z_Key)) = r at ho ⊢
    simp only at ho
    omega
  · rintro again i ⟨p, o⟩ hi
    show S_spec_SetPut_4 k0 again (l, p, i, a, b, c, d, e, o) = _
    unfold S_spec_SetPut_4
    simp only [Bool.cond_eq_ite, decide_eq_true_eq, if_neg hi]
theorem spec_SetPut_eq (l : List E_Key) (a b c d e : Int) (hl : l.length ≤ 1073741824) : F_spec_SetPut (l, a, b, c, d, e) = some (setPut l (a, b, c, d, e)) := by
  have hlen := spFold_len (a, b, c, d, e) l (false, [])
  unfold F_spec_SetPut setPut
  rw [spec_SetPut_loop _ l a b c d e hl]
  generalize l.foldl (spOne (a, b, c, d, e)) (false, []) = r at hlen ⊢
  obtain ⟨q, o⟩ := r
  cases q with
  | true => rfl
  | false =>
    simp only [pN, List.length_nil, Bool.false_eq_true, if_false] at hlen
    simp only [Bool.not_false, cond_true, List.length_cons, List.length_nil, Bool.false_eq_true, if_false]
    rw [if_pos (by omega)]
theorem impl_SetPut_step {R : Type} (k0 : Bool × Int × Int × Int × Int × Int × List E_Key → Option R) (again : T_impl_SetPut_4 → Option R) (l : List E_Key) (i : Int) (p : Bool) (a b c d e : Int) (o : List E_Key) (hl : l.length ≤ 1073741824) (h0 : 0 ≤ i) (h1 : i < (l.length : Int)) (ho : o.length ≤ 1073741825) :
    S_impl_SetPut_4 k0 again (p, l, (l.length : Int), i, a, b, c, d, e, o) = again ((spOne (a, b, c, d, e) (p, o) (l.getD i.toNat z_Key)).1, l, (l.length : Int), i + 1, a, b, c, d, e, (spOne (a, b, c, d, e) (p, o) (l.getD i.toNat z_Key)).2) := by
  have hw : Go.IntKind.wrap .i64 (i + 1) = i + 1 := w64 (by omega) (by omega)
  have c1 : (o.length + (0 + 1)) * 40 < 140737488355328 := lt40 ho (by decide)
  have c2 : (o.length + (0 + 1) + (0 + 1)) * 40 < 140737488355328 := by rw [Nat.add_assoc]; exact lt40 ho (by decide)
  obtain ⟨⟨x1, x2, x3, x4, x5⟩, hx⟩ : ∃ x, rd_Key l i = x := ⟨_, rfl⟩
  have hx' : l.getD i.toNat z_Key = (x1, x2, x3, x4, x5) := hx
  rw [hx']
  unfold S_impl_SetPut_4
  simp only [Bool.cond_eq_ite, decide_eq_true_eq, h0, h1, if_true, hw, hx, impl_LessKey_eq, impl_SameSpot_eq, Option.bind_some, List.length_append, List.length_cons, List.length_nil]
  unfold spOne
  generalize lessK (x1, x2, x3, x4, x5) (a, b, c, d, e) = q1
  generalize sameK (x1, x2, x3, x4, x5) (a, b, c, d, e) = q2
  simp only [c1, c2, if_true]
  cases p <;> cases q1 <;> cases q2 <;> rfl
theorem impl_SetPut_loop {R : Type} (k0 : Bool × Int × Int × Int × Int × Int × List E_Key → Option R) (l : List E_Key) (a b c d e : Int) (hl : l.length ≤ 1073741824) :
    L_impl_SetPut_4 k0 (false, l, (l.length : Int), 0, a, b, c, d, e, []) = k0 ((l.foldl (spOne (a, b, c, d, e)) (false, [])).1, a, b, c, d, e, (l.foldl (spOne (a, b, c, d, e)) (false, [])).2) := by
  unfold L_impl_SetPut_4
  refine fold_loop (step := S_impl_SetPut_4 k0) (fun (i : Int) (s : Bool × List E_Key) => (s.1, l, (l.length : Int), i, a, b, c, d, e, s.2)) (fun s => k0 (s.1, a, b, c, d, e, s.2)) z_Key (spOne (a, b, c, d, e)) l (by omega) (fun i s => s.2.length ≤ i + pN s.1) ?_ ?_ (false, []) (by simp)
  · rintro again i ⟨p, o⟩ h0 h1 hI
    have hp : pN p ≤ 1 := by cases p <;> decide
    have hI' : o.length ≤ i.toNat + pN p := hI
    clear hI
    refine ⟨impl_SetPut_step k0 again l i p a b c d e o hl h0 h1 (by omega), ?_⟩
    have ho := (spOne_len (a, b, c, d, e) (p, o) (l.getD i.toNat z_Key)).1
    show (spOne (a, b, c, d, e) (p, o) (l.getD i.toNat z_Key)).2.length ≤ i.toNat + 1 + pN (spOne (a, b, c, d, e) (p, o) (l.getD i.toNat z_Key)).1
    generalize (spOne (a, b, c, d, e) (p, o) (l.getD i.toNat z_Key)) = r at ho ⊢
    simp only at ho
    omega
  · rintro again i ⟨p, o⟩ hi
    show S_impl_SetPut_4 k0 again (p, l, (l.length : Int), i, a, b, c, d, e, o) = _
    unfold S_impl_SetPut_4
    simp only [Bool.cond_eq_ite, decide_eq_true_eq, if_neg hi]
theorem impl_SetPut_eq (l : List E_Key) (a b c d e : Int) (hl : l.length ≤ 1073741824) : F_impl_SetPut (l, a, b, c, d, e) = some (setPut l (a, b, c, d, e)) := by
  have hlen := spFold_len (a, b, c, d, e) l (false, [])
  unfold F_impl_SetPut setPut
  rw [impl_SetPut_loop _ l a b c d e hl]
  generalize l.foldl (spOne (a, b, c, d, e)) (false, []) = r at hlen ⊢
  obtain ⟨q, o⟩ := r
  cases q with
  | true => rfl
  | false =>
    simp only [pN, List.length_nil, Bool.false_eq_true, if_false] at hlen
    simp only [Bool.not_false, cond_true, List.length_cons, List.length_nil, Bool.false_eq_true, if_false]
    rw [if_pos (by omega)]
end Go.Proofs.YtmofdkmggfdciaaGreat.Pl
namespace Go.Proofs.YtmofdkmggfdciaaGreat.Pl
open Go.Proofs.YtmofdkmggfdciaaGreat.R Go.Proofs.YtmofdkmggfdciaaGreat.XO
def mergeK (a b : List E_Key) : List E_Key := b.foldl setPut a
theorem mergeK_len : ∀ (b a : List E_Key), (mergeK a b).length ≤ a.length + b.length
  | [], a => by simp [mergeK]
  | c :: b, a => by
    have h := mergeK_len b (setPut a c)
    have h2 := setPut_len a c
    unfold mergeK at h ⊢
    simp only [List.foldl_cons, List.length_cons] at h ⊢
    omega
def dropOne (s : List E_Key) (c : E_Key) : List E_Key := if c.2.2.1 = 0 then s else s ++ [c]
def dropK (l : List E_Key) : List E_Key := l.foldl dropOne []
theorem dropOne_len (s : List E_Key) (c : E_Key) : (dropOne s c).length ≤ s.length + 1 := by
  unfold dropOne
  split <;> simp
theorem dropF_len : ∀ (l s : List E_Key), (l.foldl dropOne s).length ≤ s.length + l.length
  | [], s => by simp
  | c :: l, s => by
    have h := dropF_len l (dropOne s c)
    have h2 := dropOne_len s c
    simp only [List.foldl_cons, List.length_cons]
    omega
def lenK (a : E_s_LKey) : Int := (List.length a : Int)
theorem lenK_nonneg (a : E_s_LKey) : 0 ≤ lenK a := Int.natCast_nonneg _
def nodeK (n : List E_s_LKey) : List E_Key := dropK (n.foldl mergeK [])
theorem nodeF_len : ∀ (n : List E_s_LKey) (s : List E_Key), ((n.foldl mergeK s).length : Int) ≤ s.length + sumW lenK n
  | [], s => by simp [sumW]
  | c :: n, s => by
    have h := nodeF_len n (mergeK s c)
    have h2 := mergeK_len c s
    simp only [List.foldl_cons, sumW_cons, lenK]
    omega
theorem nodeK_len (n : List E_s_LKey) : ((nodeK n).length : Int) ≤ sumW lenK n := by
  have h := dropF_len (n.foldl mergeK []) []
  have h2 := nodeF_len n []
  unfold nodeK dropK
  simp only [List.length_nil] at h h2
  omega
theorem wSets_ge (n : List E_s_LKey) : sumW lenK n ≤ wSets n := by
  show sumW (fun a : E_s_LKey => (List.length a : Int)) n ≤ (List.length n : Int) + sumW (fun a : E_s_LKey => (List.length a : Int)) n
  omega
def treeOne (s : List E_Key) (n : E_LNode) : List E_Key := s ++ nodeK n
def treeK (t : List E_LNode) : List E_Key := t.foldl treeOne []
theorem spec_MergeSets_eq (a b : List E_Key) (h : a.length + b.length ≤ 1073741824) : F_spec_MergeSets (a, b) = some (mergeK a b) := by
  unfold F_spec_MergeSets L_spec_MergeSets_3
  simp only [List.length_nil, Nat.zero_add, List.nil_append]
  rw [if_pos (by omega)]
  refine fold_loop (step := S_spec_MergeSets_3 _) (fun (i : Int) (s : List E_Key) => (b, i, s)) (fun s => some s) z_Key setPut b (by omega) (fun i s => s.length ≤ a.length + i) ?_ ?_ a (by simp)
  · intro again i s h0 h1 hI
    have hw : Go.IntKind.wrap .i64 (i + 1) = i + 1 := w64 (by omega) (by omega)
    have hs := setPut_len s (b.getD i.toNat z_Key)
    have e := spec_SetPut_eq s (rd_Key b i).1 (rd_Key b i).2.1 (rd_Key b i).2.2.1 (rd_Key b i).2.2.2.1 (rd_Key b i).2.2.2.2 (by omega)
    refine ⟨?_, by omega⟩
    unfold S_spec_MergeSets_3
    simp only [Bool.cond_eq_ite, decide_eq_true_eq, h0, h1, if_true, hw, e, Option.bind_some]
    rfl
  · intro again i s hi
    unfold S_spec_MergeSets_3
    simp only [Bool.cond_eq_ite, decide_eq_true_eq, if_neg hi]
theorem spec_Drop_eq (l : List E_Key) (h : l.length ≤ 1073741824) : F_spec_Drop l = some (dropK l) := by
  unfold F_spec_Drop L_spec_Drop_3
  refine fold_loop (step := S_spec_Drop_3 _) (fun (i : Int) (s : List E_Key) => (l, i, s)) (fun s => some s) z_Key dropOne l (by omega) (fun i s => s.length ≤ i) ?_ ?_ [] (by simp)
  · intro again i s h0 h1 hI
    have hw : Go.IntKind.wrap .i64 (i + 1) = i + 1 := w64 (by omega) (by omega)
    have hs := dropOne_len s (l.getD i.toNat z_Key)
    refine ⟨?_, by omega⟩
    have c1 : (s.length + 1) * 40 < 140737488355328 := by omega
    clear hs
    unfold S_spec_Drop_3 dropOne
    obtain ⟨⟨x1, x2, x3, x4, x5⟩, hx⟩ : ∃ x, rd_Key l i = x := ⟨_, rfl⟩
    have hx' : l.getD i.toNat z_Key = (x1, x2, x3, x4, x5) := hx
    rw [hx']
    simp only [Bool.cond_eq_ite, decide_eq_true_eq, h0, h1, if_true, hw, hx, List.length_cons, List.length_nil, Nat.zero_add, c1]
    by_cases h3 : x3 = 0
    · rw [if_neg (by simpa using h3), if_pos h3]
    · rw [if_pos (by simpa using h3), if_neg h3]
  · intro again i s hi
    unfold S_spec_Drop_3
    simp only [Bool.cond_eq_ite, decide_eq_true_eq, if_neg hi]
theorem spec_NodeKeys_eq (n : List E_s_Key) (hn : n.length ≤ 1073741824) (h : sumW lenK n ≤ 1048576) : F_spec_NodeKeys n = some (nodeK n) := by
  have hlen := nodeF_len n []
  simp only [List.length_nil] at hlen
  have hD := spec_Drop_eq (n.foldl mergeK []) (by omega)
  unfold F_spec_NodeKeys L_spec_NodeKeys_3
  refine (fold_loop (step := S_spec_NodeKeys_3 _) (fun (i : Int) (s : List E_Key) => (i, n, s)) (fun s => Option.bind (F_spec_Drop s) fun r3 => some r3) z_s_Key mergeK n (by omega) (fun i s => (s.length : Int) + sumW lenK (n.drop i) ≤ sumW lenK n) ?_ ?_ [] (by simp)).trans ?_
  · intro again i s h0 h1 hI
    have hw : Go.IntKind.wrap .i64 (i + 1) = i + 1 := w64 (by omega) (by omega)
    rw [drop_getD z_s_Key n i h0 h1, sumW_cons, show (i + 1).toNat = i.toNat + 1 by omega] at hI
    have hnn := sumW_nonneg lenK_nonneg (n.drop (i.toNat + 1))
    have hm := mergeK_len (n.getD i.toNat z_s_Key) s
    have hk : lenK (n.getD i.toNat z_s_Key) = (List.length (n.getD i.toNat z_s_Key) : Int) := rfl
    have e : F_spec_MergeSets (s, rd_s_Key n i) = some (mergeK s (rd_s_Key n i)) := spec_MergeSets_eq s _ (by show s.length + List.length (n.getD i.toNat z_s_Key) ≤ _; omega)
    refine ⟨?_, by omega⟩
    unfold S_spec_NodeKeys_3
    simp only [Bool.cond_eq_ite, decide_eq_true_eq, h0, h1, if_true, hw, e, Option.bind_some]
    rfl
  · intro again i s hi
    unfold S_spec_NodeKeys_3
    simp only [Bool.cond_eq_ite, decide_eq_true_eq, if_neg hi]
  · rw [hD]
    rfl
theorem spec_TreeKeys_eq (q : List Int) (t : List E_Node) (ht : t.length ≤ 1073741824) (hm : ∀ n ∈ t, List.length n ≤ 1073741824) (h : sumW wSets t ≤ 1048576) : F_spec_TreeKeys (q, t) = some (treeK t) := by
  unfold F_spec_TreeKeys L_spec_TreeKeys_3
  refine fold_loop (step := S_spec_TreeKeys_3 _) (fun (i : Int) (s : List E_Key) => (i, q, t, s)) (fun s => some s) z_Node treeOne t (by omega) (fun i s => (s.length : Int) + sumW wSets (t.drop i) ≤ sumW wSets t) ?_ ?_ [] (by simp)
  · intro again i s h0 h1 hI
    have hw : Go.IntKind.wrap .i64 (i + 1) = i + 1 := w64 (by omega) (by omega)
    rw [drop_getD z_Node t i h0 h1, sumW_cons, show (i + 1).toNat = i.toNat + 1 by omega] at hI
    have hnn := sumW_nonneg wSets_nonneg (t.drop (i.toNat + 1))
    have hge := wSets_ge (t.getD i.toNat z_Node)
    have hk := nodeK_len (t.getD i.toNat z_Node)
    have e : F_spec_NodeKeys (rd_Node t i) = some (nodeK (rd_Node t i)) := spec_NodeKeys_eq _ (hm _ (getD_mem z_Node t i h0 h1)) (by show sumW lenK (t.getD i.toNat z_Node) ≤ _; omega)
    have hT : (treeOne s (t.getD i.toNat z_Node)).length = s.length + (nodeK (t.getD i.toNat z_Node)).length := List.length_append
    have c1 : (s.length + (nodeK (rd_Node t i)).length) * 40 < 140737488355328 := by
      show (s.length + (nodeK (t.getD i.toNat z_Node)).length) * 40 < 140737488355328
      generalize (nodeK (t.getD i.toNat z_Node)).length = m at hk ⊢
      clear hT e
      have : s.length + m ≤ 1048576 := by omega
      omega
    refine ⟨?_, by rw [hT]; omega⟩
    unfold S_spec_TreeKeys_3
    simp only [Bool.cond_eq_ite, decide_eq_true_eq, h0, h1, if_true, hw, e, Option.bind_some, c1]
    rfl
  · intro again i s hi
    unfold S_spec_TreeKeys_3
    simp only [Bool.cond_eq_ite, decide_eq_true_eq, if_neg hi]
theorem impl_MergeSets_eq (a b : List E_Key) (h : a.length + b.length ≤ 1073741824) : F_impl_MergeSets (a, b) = some (mergeK a b) := by
  unfold F_impl_MergeSets F_impl_copyKeys L_impl_MergeSets_3
  simp only [List.length_nil, Nat.zero_add, List.nil_append]
  rw [if_pos (by omega), Option.bind_some]
  refine fold_loop (step := S_impl_MergeSets_3 _) (fun (i : Int) (s : List E_Key) => (b, (b.length : Int), i, s)) (fun s => some s) z_Key setPut b (by omega) (fun i s => s.length ≤ a.length + i) ?_ ?_ a (by simp)
  · intro again i s h0 h1 hI
    have hw : Go.IntKind.wrap .i64 (i + 1) = i + 1 := w64 (by omega) (by omega)
    have hs := setPut_len s (b.getD i.toNat z_Key)
    have e := impl_SetPut_eq s (rd_Key b i).1 (rd_Key b i).2.1 (rd_Key b i).2.2.1 (rd_Key b i).2.2.2.1 (rd_Key b i).2.2.2.2 (by omega)
    refine ⟨?_, by omega⟩
    unfold S_impl_MergeSets_3
    simp only [Bool.cond_eq_ite, decide_eq_true_eq, h0, h1, if_true, hw, e, Option.bind_some]
    rfl
  · intro again i s hi
    unfold S_impl_MergeSets_3
    simp only [Bool.cond_eq_ite, decide_eq_true_eq, if_neg hi]
theorem impl_Drop_eq (l : List E_Key) (h : l.length ≤ 1073741824) : F_impl_Drop l = some (dropK l) := by
  unfold F_impl_Drop L_impl_Drop_3
  refine fold_loop (step := S_impl_Drop_3 _) (fun (i : Int) (s : List E_Key) => (l, (l.length : Int), i, s)) (fun s => some s) z_Key dropOne l (by omega) (fun i s => s.length ≤ i) ?_ ?_ [] (by simp)
  · intro again i s h0 h1 hI
    have hw : Go.IntKind.wrap .i64 (i + 1) = i + 1 := w64 (by omega) (by omega)
    have hs := dropOne_len s (l.getD i.toNat z_Key)
    refine ⟨?_, by omega⟩
    have c1 : (s.length + 1) * 40 < 140737488355328 := by omega
    clear hs
    unfold S_impl_Drop_3 dropOne
    obtain ⟨⟨x1, x2, x3, x4, x5⟩, hx⟩ : ∃ x, rd_Key l i = x := ⟨_, rfl⟩
    have hx' : l.getD i.toNat z_Key = (x1, x2, x3, x4, x5) := hx
    rw [hx']
    simp only [Bool.cond_eq_ite, decide_eq_true_eq, h0, h1, if_true, hw, hx, List.length_cons, List.length_nil, Nat.zero_add, c1]
    by_cases h3 : x3 = 0
    · rw [if_neg (by simpa using h3), if_pos h3]
    · rw [if_pos (by simpa using h3), if_neg h3]
  · intro again i s hi
    unfold S_impl_Drop_3
    simp only [Bool.cond_eq_ite, decide_eq_true_eq, if_neg hi]
theorem impl_NodeKeys_eq (n : List E_s_Key) (hn : n.length ≤ 1073741824) (h : sumW lenK n ≤ 1048576) : F_impl_NodeKeys n = some (nodeK n) := by
  have hlen := nodeF_len n []
  simp only [List.length_nil] at hlen
  have hD := impl_Drop_eq (n.foldl mergeK []) (by omega)
  unfold F_impl_NodeKeys L_impl_NodeKeys_3
  refine (fold_loop (step := S_impl_NodeKeys_3 _) (fun (i : Int) (s : List E_Key) => (n, (n.length : Int), i, s)) (fun s => Option.bind (F_impl_Drop s) fun r3 => some r3) z_s_Key mergeK n (by omega) (fun i s => (s.length : Int) + sumW lenK (n.drop i) ≤ sumW lenK n) ?_ ?_ [] (by simp)).trans ?_
  · intro again i s h0 h1 hI
    have hw : Go.IntKind.wrap .i64 (i + 1) = i + 1 := w64 (by omega) (by omega)
    rw [drop_getD z_s_Key n i h0 h1, sumW_cons, show (i + 1).toNat = i.toNat + 1 by omega] at hI
    have hnn := sumW_nonneg lenK_nonneg (n.drop (i.toNat + 1))
    have hm := mergeK_len (n.getD i.toNat z_s_Key) s
    have hk : lenK (n.getD i.toNat z_s_Key) = (List.length (n.getD i.toNat z_s_Key) : Int) := rfl
    have e : F_impl_MergeSets (s, rd_s_Key n i) = some (mergeK s (rd_s_Key n i)) := impl_MergeSets_eq s _ (by show s.length + List.length (n.getD i.toNat z_s_Key) ≤ _; omega)
    refine ⟨?_, by omega⟩
    unfold S_impl_NodeKeys_3
    simp only [Bool.cond_eq_ite, decide_eq_true_eq, h0, h1, if_true, hw, e, Option.bind_some]
    rfl
  · intro again i s hi
    unfold S_impl_NodeKeys_3
    simp only [Bool.cond_eq_ite, decide_eq_true_eq, if_neg hi]
  · rw [hD]
    rfl
theorem impl_TreeKeys_eq (q : List Int) (t : List E_Node) (ht : t.length ≤ 1073741824) (hm : ∀ n ∈ t, List.length n ≤ 1073741824) (h : sumW wSets t ≤ 1048576) : F_impl_TreeKeys (q, t) = some (treeK t) := by
  unfold F_impl_TreeKeys L_impl_TreeKeys_3
  refine fold_loop (step := S_impl_TreeKeys_3 _) (fun (i : Int) (s : List E_Key) => (t, (t.length : Int), i, s)) (fun s => some s) z_Node treeOne t (by omega) (fun i s => (s.length : Int) + sumW wSets (t.drop i) ≤ sumW wSets t) ?_ ?_ [] (by simp)
  · intro again i s h0 h1 hI
    have hw : Go.IntKind.wrap .i64 (i + 1) = i + 1 := w64 (by omega) (by omega)
    rw [drop_getD z_Node t i h0 h1, sumW_cons, show (i + 1).toNat = i.toNat + 1 by omega] at hI
    have hnn := sumW_nonneg wSets_nonneg (t.drop (i.toNat + 1))
    have hge := wSets_ge (t.getD i.toNat z_Node)
    have hk := nodeK_len (t.getD i.toNat z_Node)
    have e : F_impl_NodeKeys (rd_Node t i) = some (nodeK (rd_Node t i)) := impl_NodeKeys_eq _ (hm _ (getD_mem z_Node t i h0 h1)) (by show sumW lenK (t.getD i.toNat z_Node) ≤ _; omega)
    have hT : (treeOne s (t.getD i.toNat z_Node)).length = s.length + (nodeK (t.getD i.toNat z_Node)).length := List.length_append
    have c1 : (s.length + (nodeK (rd_Node t i)).length) * 40 < 140737488355328 := by
      show (s.length + (nodeK (t.getD i.toNat z_Node)).length) * 40 < 140737488355328
      generalize (nodeK (t.getD i.toNat z_Node)).length = m at hk ⊢
      clear hT e
      have : s.length + m ≤ 1048576 := by omega
      omega
    refine ⟨?_, by rw [hT]; omega⟩
    unfold S_impl_TreeKeys_3
    simp only [Bool.cond_eq_ite, decide_eq_true_eq, h0, h1, if_true, hw, e, Option.bind_some, c1]
    rfl
  · intro again i s hi
    unfold S_impl_TreeKeys_3
    simp only [Bool.cond_eq_ite, decide_eq_true_eq, if_neg hi]
end Go.Proofs.YtmofdkmggfdciaaGreat.Pl
