/- Base, Loops, Marks, MarkC, Rng, Pool, Keys, Tree, Seen, See, Whole, Walk, Oks, Trees, Names, PoolOk, PoolOk2, PoolOk3. No condition. -/
import Derived.Test.YtmapoakbdgpamaaGreatDM1
import Derived.Laws.BitsLemmas
set_option linter.all false
namespace Go.Proofs.YtmapoakbdgpamaaGreat.Pl
open Go.Proofs.YtmapoakbdgpamaaGreat.R Go.Proofs.YtmapoakbdgpamaaGreat.XM
theorem loop_lt {T R : Type} {step : (T → Option R) → T → Option R} (μ : T → Nat) (inv : T → Prop) (G : T → Option R)
  (h : ∀ again t, inv t → (∀ t', inv t' → μ t' < μ t → again t' = G t') → step again t = G t) : ∀ (n : Nat) (t : T), inv t → μ t < n → iter step n t = G t := by
 intro n
 induction n with
 | zero => intro t _ hn; omega
 | succ n ih =>
  intro t ht hn
  rw [iter]
  exact h _ t ht fun t' ht' hlt => ih t' ht' (by omega)
theorem loop_fuel {T R : Type} {step : (T → Option R) → T → Option R} (μ : T → Nat) (inv : T → Prop) (G : T → Option R)
  (h : ∀ again t, inv t → (∀ t', inv t' → μ t' < μ t → again t' = G t') → step again t = G t) (t : T) (ht : inv t) (hn : μ t < 18446744073709551616) : iter step FUEL t = G t :=
 loop_lt μ inv G h FUEL t ht (by rw [FUEL_eq]; exact hn)
theorem w64 {n : Int} (h0 : -9223372036854775808 ≤ n) (h1 : n ≤ 9223372036854775807) : Go.IntKind.wrap .i64 n = n := by
 rw [IntKind.wrap_i64]
 omega
def inR (x a b : Int) : Bool := decide (a ≤ x) && decide (x ≤ b)
theorem inR_iff {x a b : Int} : inR x a b = true ↔ a ≤ x ∧ x ≤ b := by simp [inR]
theorem wrap_small (n : Nat) (h : n < 9223372036854775808) : IntKind.i64.wrap (n : Int) = n := by
 rw [IntKind.wrap_i64]
 omega
theorem ofInt_toNat (x : Int) : ((BitVec.ofInt 64 x).toNat : Int) = x % 18446744073709551616 := by
 rw [BitVec.toNat_ofInt]
 omega
theorem and_mask (x : Int) (m : Nat) (j : Nat) (hj : j < 63) (hm : m = 2 ^ j - 1) : bits .and .i64 x m = x % (2 ^ j : Nat) := by
 have hd : (2 ^ j : Nat) ∣ 18446744073709551616 := by
  have : (18446744073709551616 : Nat) = 2 ^ j * 2 ^ (64 - j) := by rw [← Nat.pow_add, show j + (64 - j) = 64 by omega]
  rw [this]
  exact Nat.dvd_mul_right _ _
 have hlt : m < 18446744073709551616 := by
  have : 2 ^ j ≤ 2 ^ 64 := Nat.pow_le_pow_right (by omega) (by omega)
  have h1 : 0 < 2 ^ j := Nat.two_pow_pos j
  omega
 have hj63 : 2 ^ j < 9223372036854775808 := by
  have : 2 ^ j ≤ 2 ^ 62 := Nat.pow_le_pow_right (by omega) (by omega)
  omega
 show IntKind.i64.wrap ((BitVec.ofInt 64 x &&& BitVec.ofInt 64 (m : Int)).toNat : Int) = _
 rw [BitVec.toNat_and, BitVec.ofInt_natCast, BitVec.toNat_ofNat, Nat.mod_eq_of_lt hlt, hm, Nat.and_two_pow_sub_one_eq_mod]
 have h2 := Nat.mod_lt (BitVec.ofInt 64 x).toNat (Nat.two_pow_pos j)
 rw [wrap_small _ (by omega), Int.natCast_emod, ofInt_toNat]
 exact Int.emod_emod_of_dvd _ (Int.ofNat_dvd.2 hd)
theorem and255 (x : Int) : bits .and .i64 x 255 = x % 256 := and_mask x 255 8 (by omega) (by decide)
theorem and1 (x : Int) : bits .and .i64 x 1 = x % 2 := and_mask x 1 1 (by omega) (by decide)
theorem xor_nat (a b : Nat) (ha : a < 9223372036854775808) (hb : b < 9223372036854775808) : bits .xor .i64 (a : Int) (b : Int) = ((a ^^^ b : Nat) : Int) := by
 show IntKind.i64.wrap ((BitVec.ofInt 64 (a : Int) ^^^ BitVec.ofInt 64 (b : Int)).toNat : Int) = _
 rw [BitVec.toNat_xor, BitVec.ofInt_natCast, BitVec.ofInt_natCast, BitVec.toNat_ofNat, BitVec.toNat_ofNat, Nat.mod_eq_of_lt (by omega), Nat.mod_eq_of_lt (by omega)]
 exact wrap_small _ (Nat.xor_lt_two_pow (n := 63) ha hb)
theorem or_nat (a b : Nat) (ha : a < 9223372036854775808) (hb : b < 9223372036854775808) : bits .or .i64 (a : Int) (b : Int) = ((a ||| b : Nat) : Int) := by
 show IntKind.i64.wrap ((BitVec.ofInt 64 (a : Int) ||| BitVec.ofInt 64 (b : Int)).toNat : Int) = _
 rw [BitVec.toNat_or, BitVec.ofInt_natCast, BitVec.ofInt_natCast, BitVec.toNat_ofNat, BitVec.toNat_ofNat, Nat.mod_eq_of_lt (by omega), Nat.mod_eq_of_lt (by omega)]
 exact wrap_small _ (Nat.or_lt_two_pow (n := 63) ha hb)
theorem or_join (j : Nat) (hj : j ≤ 62) (a b : Int) (h0 : 0 ≤ a) (h1 : a * 2 ^ j < 9223372036854775808) (hb0 : 0 ≤ b) (hb1 : b < 2 ^ j) : bits .or .i64 (a * 2 ^ j) b = a * 2 ^ j + b := by
 obtain ⟨a, rfl⟩ := Int.eq_ofNat_of_zero_le h0
 obtain ⟨b, rfl⟩ := Int.eq_ofNat_of_zero_le hb0
 have e2 : ((2 : Int) ^ j) = ((2 ^ j : Nat) : Int) := by rw [Int.natCast_pow]; rfl
 have hb1' : b < 2 ^ j := by
  rw [e2] at hb1
  exact Int.ofNat_lt.1 hb1
 have e : (a : Int) * 2 ^ j = ((a * 2 ^ j : Nat) : Int) := by rw [e2, Int.natCast_mul]
 rw [e] at h1 ⊢
 have ha : a * 2 ^ j < 9223372036854775808 := Int.ofNat_lt.1 h1
 have hor : a * 2 ^ j ||| b = a * 2 ^ j + b := by
  rw [← Nat.shiftLeft_eq, Nat.shiftLeft_add_eq_or_of_lt hb1']
 have h62 : 2 ^ j ≤ 2 ^ 62 := Nat.pow_le_pow_right (by omega) hj
 have hbl : b < 9223372036854775808 := by omega
 rw [or_nat _ _ ha hbl, hor, Int.natCast_add]
theorem xor_range (x y : Int) (hx0 : 0 ≤ x) (hx1 : x < 4294967296) (hy0 : 0 ≤ y) (hy1 : y < 4294967296) : 0 ≤ bits .xor .i64 x y ∧ bits .xor .i64 x y < 4294967296 := by
 obtain ⟨a, rfl⟩ := Int.eq_ofNat_of_zero_le hx0
 obtain ⟨b, rfl⟩ := Int.eq_ofNat_of_zero_le hy0
 rw [xor_nat a b (by omega) (by omega)]
 have := Nat.xor_lt_two_pow (n := 32) (x := a) (y := b) (by omega) (by omega)
 omega
def isBytes (l : List Int) : Prop := ∀ x ∈ l, 0 ≤ x ∧ x < 256
def by_ (l : List Int) (i : Int) : Int := l.getD i.toNat 0
theorem by_range {l : List Int} (h : isBytes l) (i : Int) : 0 ≤ by_ l i ∧ by_ l i < 256 := by
 unfold by_
 rw [List.getD_eq_getElem?_getD]
 cases hl : l[i.toNat]? with
 | none => simp
 | some x => exact h x (List.mem_of_getElem? hl)
theorem isBytes_take {l : List Int} (h : isBytes l) (n : Nat) : isBytes (l.take n) := fun x hx => h x (List.mem_of_mem_take hx)
theorem isBytes_drop {l : List Int} (h : isBytes l) (n : Nat) : isBytes (l.drop n) := fun x hx => h x (List.mem_of_mem_drop hx)
theorem by_take {l : List Int} {n : Nat} {i : Int} (hi : i.toNat < n) : by_ (l.take n) i = by_ l i := by
 unfold by_
 rw [List.getD_eq_getElem?_getD, List.getD_eq_getElem?_getD, List.getElem?_take, if_pos hi]
def crcBit (x : Int) : Int := if x % 2 = 1 then bits .xor .i64 (x / 2) 2197175160 else x / 2
def crcBits : Nat → Int → Int
 | 0, x => x
 | n + 1, x => crcBits n (crcBit x)
def crcStep (x b : Int) : Int := crcBits 8 (bits .xor .i64 x b)
def crc (l : List Int) : Int := bits .xor .i64 (l.foldl crcStep 4294967295) 4294967295
theorem crcBit_range (x : Int) (h0 : 0 ≤ x) (h1 : x < 4294967296) : 0 ≤ crcBit x ∧ crcBit x < 4294967296 := by
 unfold crcBit
 split
 ·exact xor_range _ _ (by omega) (by omega) (by omega) (by omega)
 ·omega
theorem crcBits_range : ∀ (n : Nat) (x : Int), 0 ≤ x → x < 4294967296 → 0 ≤ crcBits n x ∧ crcBits n x < 4294967296
 | 0, _, h0, h1 => ⟨h0, h1⟩
 | n + 1, x, h0, h1 => crcBits_range n _ (crcBit_range x h0 h1).1 (crcBit_range x h0 h1).2
theorem crcStep_range (x b : Int) (h0 : 0 ≤ x) (h1 : x < 4294967296) (hb0 : 0 ≤ b) (hb1 : b < 256) : 0 ≤ crcStep x b ∧ crcStep x b < 4294967296 := by
 have := xor_range x b h0 h1 hb0 (by omega)
 exact crcBits_range 8 _ this.1 this.2
end Go.Proofs.YtmapoakbdgpamaaGreat.Pl
namespace Go.Proofs.YtmapoakbdgpamaaGreat.Pl
open Go.Proofs.YtmapoakbdgpamaaGreat.R Go.Proofs.YtmapoakbdgpamaaGreat.XM
theorem loop_prop {T R : Type} {step : (T → Option R) → T → Option R} (μ : T → Nat) (inv : T → Prop) (Q : T → Option R → Prop)
  (h : ∀ again t, inv t → (∀ t', inv t' → μ t' < μ t → Q t' (again t')) → Q t (step again t)) (t : T) (ht : inv t) (hn : μ t < 18446744073709551616) : Q t (iter step FUEL t) := by
 have key : ∀ (n : Nat) (t : T), inv t → μ t < n → Q t (iter step n t) := by
  intro n
  induction n with
  | zero => intro t _ hn; omega
  | succ n ih =>
   intro t ht hn
   rw [iter]
   exact h _ t ht fun t' ht' hlt => ih t' ht' (by omega)
 exact key FUEL t ht (by rw [FUEL_eq]; exact hn)
theorem getD_get {A : Type} (da : A) (l : List A) (i : Int) (h0 : 0 ≤ i) (h : i < l.length) : l.getD i.toNat da = l[i.toNat]'(by omega) := by
 rw [List.getD_eq_getElem?_getD, List.getElem?_eq_getElem (by omega)]
 rfl
theorem getD_mem {A : Type} (da : A) (l : List A) (i : Int) (h0 : 0 ≤ i) (h : i < l.length) : l.getD i.toNat da ∈ l := by
 rw [getD_get da l i h0 h]
 exact List.getElem_mem _
theorem drop_getD {A : Type} (da : A) (l : List A) (i : Int) (h0 : 0 ≤ i) (h : i < l.length) : l.drop i.toNat = l.getD i.toNat da :: l.drop (i + 1).toNat := by
 rw [getD_get da l i h0 h, show (i + 1).toNat = i.toNat + 1 by omega, ← List.drop_eq_getElem_cons]
theorem copy_loop {A R : Type} (da : A) {step : (List A × Int × List A → Option R) → List A × Int × List A → Option R} (k : List A → Option R) (l : List A) (hl : l.length ≤ 1099511627776)
  (h : ∀ again i o, 0 ≤ i → i < (l.length : Int) → o.length = l.length → step again (l, i, o) = again (l, i + 1, o.set i.toNat (l.getD i.toNat da)))
  (hd : ∀ again i o, ¬ i < (l.length : Int) → step again (l, i, o) = k o) (o : List A) (ho : o.length = l.length) : iter step FUEL (l, 0, o) = k l := by
 rw [loop_fuel (fun t : List A × Int × List A => t.1.length - t.2.1.toNat) (fun t => t.1 = l ∧ 0 ≤ t.2.1 ∧ t.2.1 ≤ l.length ∧ t.2.2.length = l.length) (fun t => k (t.2.2.take t.2.1.toNat ++ l.drop t.2.1.toNat)) ?_ (l, 0, o) ⟨rfl, by simp, by simp, ho⟩ (by simp; omega)]
 ·simp
 ·rintro again ⟨l', i, o⟩ ⟨rfl, h0, h1, hlen⟩ hag
  simp only at h0 h1 hlen hl ⊢
  by_cases hi : i < (l'.length : Int)
  ·rw [h again i o h0 hi hlen, hag (l', i + 1, _) ⟨rfl, by simp only; omega, by simp only; omega, by simpa using hlen⟩ (by simp only; omega), drop_getD da l' i h0 hi]
   have e1 : (i + 1).toNat = i.toNat + 1 := by omega
   have hn : i.toNat < o.length := by omega
   simp only [e1]
   rw [List.take_succ_eq_append_getElem (by simpa using hn), List.take_set_of_le (Nat.le_refl _)]
   simp
  ·have : i.toNat = l'.length := by omega
   rw [hd again i o hi, List.drop_of_length_le (by omega), List.take_of_length_le (by omega)]
   simp
theorem eq_loop {A R : Type} {step : (List A × List A × Int → Option R) → List A × List A × Int → Option R} (k : Unit → Option R) (l : List A) (hl : l.length ≤ 1099511627776)
  (h : ∀ again i, 0 ≤ i → i < (l.length : Int) → step again (l, l, i) = again (l, l, i + 1))
  (hd : ∀ again i, ¬ i < (l.length : Int) → step again (l, l, i) = k ()) : iter step FUEL (l, l, 0) = k () := by
 rw [loop_fuel (fun t : List A × List A × Int => t.1.length - t.2.2.toNat) (fun t => t.1 = l ∧ t.2.1 = l ∧ 0 ≤ t.2.2 ∧ t.2.2 ≤ l.length) (fun _ => k ()) ?_ (l, l, 0) ⟨rfl, rfl, by simp, by simp⟩ (by simp; omega)]
 rintro again ⟨a, b, i⟩ ⟨h1, h2, h0, h3⟩ hag
 simp only at h1 h2 h0 h3 ⊢
 subst h1 h2
 by_cases hi : i < (b.length : Int)
 ·rw [h again i h0 hi]
  exact hag (b, b, i + 1) ⟨rfl, rfl, by simp only; omega, by simp only; omega⟩ (by simp only; omega)
 ·exact hd again i hi
def sumW {A : Type} (w : A → Int) (l : List A) : Int := l.foldr (fun a s => w a + s) 0
theorem sumW_cons {A : Type} (w : A → Int) (a : A) (l : List A) : sumW w (a :: l) = w a + sumW w l := rfl
theorem sumW_mem {A : Type} {w : A → Int} (hw : ∀ a, 0 ≤ w a) : ∀ {l : List A} {a : A}, a ∈ l → w a ≤ sumW w l ∧ 0 ≤ sumW w l
 | b :: l, a, h => by
  have hs : 0 ≤ sumW w l := by
   clear h
   induction l with
   | nil => exact Int.le_refl _
   | cons c l ih => rw [sumW_cons]; have := hw c; omega
  rw [sumW_cons]
  have := hw b
  rcases List.mem_cons.1 h with rfl | h
  ·omega
  ·have := (sumW_mem hw h).1
   omega
theorem sumW_nonneg {A : Type} {w : A → Int} (hw : ∀ a, 0 ≤ w a) (l : List A) : 0 ≤ sumW w l := by
 induction l with
 | nil => exact Int.le_refl _
 | cons c l ih => rw [sumW_cons]; have := hw c; omega
def szOk (n w : Int) (o : Option Int) : Prop := ∃ r, o = some r ∧ (r < 0 ∨ (0 ≤ r ∧ r = n - w))
theorem sz_loop {A R : Type} (da : A) (w : A → Int) (f : A → Int → Option Int) {step : (List A × Int × Int → Option R) → List A × Int × Int → Option R} (k0 : Int × Int → Option R) (k1 : Int → Option R) (l : List A) (hl : l.length ≤ 1099511627776)
  (hw : ∀ a, 0 ≤ w a) (hf : ∀ a ∈ l, ∀ n, 0 ≤ n → n ≤ 1048576 → szOk n (w a) (f a n))
  (h : ∀ again n i r, 0 ≤ i → i < (l.length : Int) → f (l.getD i.toNat da) n = some r → step again (l, n, i) = if r < 0 then k0 (r, -1) else again (l, r, i + 1))
  (hd : ∀ again n i, ¬ i < (l.length : Int) → step again (l, n, i) = k1 n) (n : Int) (hn0 : 0 ≤ n) (hn1 : n ≤ 1048576) :
  (∃ r, iter step FUEL (l, n, 0) = k0 (r, -1)) ∨ (∃ r, 0 ≤ r ∧ r = n - sumW w l ∧ iter step FUEL (l, n, 0) = k1 r) := by
 have key := loop_prop (step := step) (fun t : List A × Int × Int => t.1.length - t.2.2.toNat) (fun t => t.1 = l ∧ 0 ≤ t.2.1 ∧ t.2.1 ≤ 1048576 ∧ 0 ≤ t.2.2 ∧ t.2.2 ≤ l.length)
  (fun t res => (∃ r, res = k0 (r, -1)) ∨ (∃ r, 0 ≤ r ∧ r = t.2.1 - sumW w (l.drop t.2.2.toNat) ∧ res = k1 r)) ?_ (l, n, 0) ⟨rfl, hn0, hn1, by simp, by simp⟩ (by simp; omega)
 ·simpa using key
 ·rintro again ⟨l', n, i⟩ ⟨rfl, a0, a1, h0, h1⟩ hag
  simp only at a0 a1 h0 h1 hl ⊢
  by_cases hi : i < (l'.length : Int)
  ·obtain ⟨r, hr, hc⟩ := hf _ (getD_mem da l' i h0 hi) n a0 a1
   have := hw (l'.getD i.toNat da)
   rw [h again n i r h0 hi hr, drop_getD da l' i h0 hi, sumW_cons]
   rcases hc with hc | ⟨hc0, hc1⟩
   ·rw [if_pos hc]
    exact .inl ⟨r, rfl⟩
   ·rw [if_neg (by omega)]
    rcases hag (l', r, i + 1) ⟨rfl, hc0, by simp only; omega, by simp only; omega, by simp only; omega⟩ (by simp only; omega) with hh | ⟨r', q0, q1, q2⟩
    ·exact .inl hh
    ·exact .inr ⟨r', q0, by simp only at q1; omega, q2⟩
  ·rw [hd again n i hi, List.drop_of_length_le (by omega)]
   exact .inr ⟨n, a0, by simp [sumW], rfl⟩
end Go.Proofs.YtmapoakbdgpamaaGreat.Pl
namespace Go.Proofs.YtmapoakbdgpamaaGreat.Pl
open Go.Proofs.YtmapoakbdgpamaaGreat.R Go.Proofs.YtmapoakbdgpamaaGreat.XM
def marksL {A : Type} (mk : A → Int → A) (cnt : A → Int) : List A → Int → List A
 | [], _ => []
 | a :: l, k => mk a k :: marksL mk cnt l (k + cnt a)
theorem marksL_len {A : Type} (mk : A → Int → A) (cnt : A → Int) : ∀ (l : List A) (k : Int), (marksL mk cnt l k).length = l.length
 | [], _ => rfl
 | a :: l, k => by simp [marksL, marksL_len mk cnt l]
theorem mark_loop {A R : Type} (da : A) (mk : A → Int → A) (cnt : A → Int) (hc : ∀ a, 0 ≤ cnt a) (P : A → Prop) {step : (Int × Int × List A → Option R) → Int × Int × List A → Option R} (k0 : Int × List A → Option R) (M : Int)
  (h : ∀ again k i l, 0 ≤ i → i < ((List.length l : Nat) : Int) → 0 ≤ k → k + cnt (l.getD i.toNat da) ≤ M → (List.length l : Int) ≤ 1099511627776 → P (l.getD i.toNat da) → step again (k, i, l) = again (k + cnt (l.getD i.toNat da), i + 1, l.set i.toNat (mk (l.getD i.toNat da) k)))
  (hd : ∀ again k i l, ¬ i < ((List.length l : Nat) : Int) → step again (k, i, l) = k0 (k, l))
  (l : List A) (k : Int) (hk : 0 ≤ k) (hl : l.length ≤ 1099511627776) (hM : k + sumW cnt l ≤ M) (hP : ∀ a ∈ l, P a) : iter step FUEL (k, 0, l) = k0 (k + sumW cnt l, marksL mk cnt l k) := by
 rw [loop_fuel (fun t : Int × Int × List A => l.length - t.2.1.toNat) (fun t => 0 ≤ t.2.1 ∧ t.2.1 ≤ l.length ∧ t.2.2.length = l.length ∧ 0 ≤ t.1 ∧ t.1 + sumW cnt (t.2.2.drop t.2.1.toNat) ≤ M ∧ ∀ a ∈ t.2.2.drop t.2.1.toNat, P a) (fun t => k0 (t.1 + sumW cnt (t.2.2.drop t.2.1.toNat), t.2.2.take t.2.1.toNat ++ marksL mk cnt (t.2.2.drop t.2.1.toNat) t.1)) ?_ (k, 0, l) ⟨by simp, by simp, rfl, hk, by simpa using hM, by simpa using hP⟩ (by simp; omega)]
 ·simp
 ·rintro again ⟨k', i, o⟩ ⟨h1, h2, h3, h4, h5, h6⟩ hag
  simp only at h1 h2 h3 h4 h5 h6 ⊢
  by_cases hi : i < ((List.length o : Nat) : Int)
  ·have hn : i.toNat < o.length := by omega
   rw [drop_getD da o i h1 hi] at h5 h6 ⊢
   rw [sumW_cons] at h5 ⊢
   have hs := sumW_nonneg hc (o.drop (i + 1).toNat)
   have e1 : (i + 1).toNat = i.toNat + 1 := by omega
   have hd1 : (o.set i.toNat (mk (o.getD i.toNat da) k')).drop (i + 1).toNat = o.drop (i + 1).toNat := by
    rw [e1, List.drop_set_of_lt (by omega)]
   rw [h again k' i o h1 hi h4 (by omega) (by omega) (h6 _ (by simp)), hag (k' + cnt (o.getD i.toNat da), i + 1, o.set i.toNat (mk (o.getD i.toNat da) k')) ⟨by simp only; omega, by simp only; omega, by simpa using h3, by have := hc (o.getD i.toNat da); simp only; omega, by
    simp only [hd1]
    omega, by
    simp only [hd1]
    exact fun a ha => h6 a (by simp [ha])⟩ (by simp only; omega)]
   simp only [hd1]
   rw [e1, List.take_succ_eq_append_getElem (by simpa using hn), List.take_set_of_le (Nat.le_refl _)]
   simp [marksL, Int.add_assoc]
  ·rw [hd again k' i o hi, List.drop_of_length_le (by omega), List.take_of_length_le (by omega)]
   simp [sumW, marksL]
theorem held_loop {A R : Type} (da : A) (mk : A → Int → A) (cnt : A → Int) (hc : ∀ a, 0 ≤ cnt a) {step : (List A × Int × Int → Option R) → List A × Int × Int → Option R} (k1 : Int → Option R) (M : Int)
  (h : ∀ again l k i a, 0 ≤ i → i < ((List.length l : Nat) : Int) → 0 ≤ k → k + cnt a ≤ M → (List.length l : Int) ≤ 1099511627776 → l.getD i.toNat da = mk a k → step again (l, k, i) = again (l, k + cnt a, i + 1))
  (hd : ∀ again l k i, ¬ i < ((List.length l : Nat) : Int) → step again (l, k, i) = k1 k)
  (l : List A) (k : Int) (hk : 0 ≤ k) (hl : l.length ≤ 1099511627776) (hM : k + sumW cnt l ≤ M) : iter step FUEL (marksL mk cnt l k, k, 0) = k1 (k + sumW cnt l) := by
 have hlen := marksL_len mk cnt l k
 rw [loop_fuel (fun t : List A × Int × Int => l.length - t.2.2.toNat) (fun t => t.1 = marksL mk cnt l k ∧ 0 ≤ t.2.2 ∧ t.2.2 ≤ l.length ∧ 0 ≤ t.2.1 ∧ ∃ r, t.1.drop t.2.2.toNat = marksL mk cnt r t.2.1 ∧ t.2.1 + sumW cnt r = k + sumW cnt l) (fun t => k1 (k + sumW cnt l)) ?_ (marksL mk cnt l k, k, 0) ⟨rfl, by simp, by simp, hk, l, by simp, rfl⟩ (by simp; omega)]
 rintro again ⟨o, k', i⟩ ⟨h1, h2, h3, h4, r, h5, h6⟩ hag
 simp only at h1 h2 h3 h4 h5 h6 ⊢
 subst h1
 by_cases hi : i < ((List.length (marksL mk cnt l k) : Nat) : Int)
 ·rw [drop_getD da _ i h2 hi] at h5
  cases r with
  | nil => simp [marksL] at h5
  | cons a r =>
   rw [marksL] at h5
   injection h5 with e1 e2
   rw [sumW_cons] at h6
   have hs := sumW_nonneg hc r
   rw [h again _ k' i a h2 hi h4 (by omega) (by omega) e1]
   exact hag _ ⟨rfl, by simp only; omega, by simp only; omega, by have := hc a; simp only; omega, r, e2, by simp only; omega⟩ (by simp only; omega)
 ·have hz : sumW cnt r = 0 := by
   rw [List.drop_of_length_le (by omega)] at h5
   cases r with
   | nil => rfl
   | cons a r => simp [marksL] at h5
  rw [hd again _ k' i hi, show k' = k + sumW cnt l by omega]
end Go.Proofs.YtmapoakbdgpamaaGreat.Pl
namespace Go.Proofs.YtmapoakbdgpamaaGreat.Pl
open Go.Proofs.YtmapoakbdgpamaaGreat.R Go.Proofs.YtmapoakbdgpamaaGreat.XM
def mkB (k : Int) (n : Nat) : List Int := (List.range n).map fun (j : Nat) => Go.IntKind.wrap .u8 (k + (j : Int))
theorem mkB_len (k : Int) (n : Nat) : (mkB k n).length = n := by simp [mkB]
theorem mkB_succ (k : Int) (n : Nat) : mkB k (n + 1) = Go.IntKind.wrap .u8 k :: mkB (k + 1) n := by
 unfold mkB
 rw [List.range_succ_eq_map, List.map_cons, List.map_map]
 congr 1
 ·simp
 ·refine List.map_congr_left fun j _ => ?_
  simp only [Function.comp]
  congr 1
  omega
theorem mkB_get (k : Int) (n j : Nat) (h : j < n) : (mkB k n).getD j 0 = Go.IntKind.wrap .u8 (k + j) := by
 unfold mkB
 rw [List.getD_eq_getElem?_getD, List.getElem?_map, List.getElem?_range h]
 rfl
theorem markByteS_eq (l : List Int) (k : Int) (h0 : 0 ≤ k) (hk : k ≤ 1099511627776) (hl : l.length ≤ 1099511627776) : F_laws_markByteS (l, k) = some (k + l.length, mkB k l.length) := by
 unfold F_laws_markByteS L_laws_markByteS_2
 rw [loop_fuel (fun t : Int × Int × List Int => l.length - t.2.1.toNat) (fun t => t.1 = k + t.2.1 ∧ 0 ≤ t.2.1 ∧ t.2.1 ≤ l.length ∧ t.2.2.length = l.length) (fun t => some (k + l.length, t.2.2.take t.2.1.toNat ++ mkB t.1 (l.length - t.2.1.toNat))) ?_ (k, 0, l) ⟨by simp, by simp, by simp, rfl⟩ (by simp; omega)]
 ·simp
 ·rintro again ⟨k', i, o⟩ ⟨h1, h2, h3, h4⟩ hag
  simp only at h1 h2 h3 h4 ⊢
  subst h1
  unfold S_laws_markByteS_2
  simp only [Bool.cond_eq_ite, decide_eq_true_eq]
  by_cases hi : i < (List.length o : Int)
  ·have hn : i.toNat < o.length := by omega
   rw [if_pos hi, if_pos h2, if_pos hi, w64 (n := i + 1) (by omega) (by omega), w64 (n := k + i + 1) (by omega) (by omega), hag (k + i + 1, i + 1, o.set i.toNat (Go.IntKind.wrap .u8 (k + i))) ⟨by simp only; omega, by simp only; omega, by simp only; omega, by simpa using h4⟩ (by simp only; omega)]
   simp only
   have e1 : (i + 1).toNat = i.toNat + 1 := by omega
   rw [e1, List.take_succ_eq_append_getElem (by simpa using hn), List.take_set_of_le (Nat.le_refl _), show l.length - i.toNat = (l.length - (i.toNat + 1)) + 1 by omega, mkB_succ]
   simp
  ·rw [if_neg hi]
   have e1 : i.toNat = o.length := by omega
   have e2 : i = (l.length : Int) := by omega
   rw [List.take_of_length_le (by omega), show l.length - i.toNat = 0 by omega, e2]
   simp [mkB]
theorem heldByteS_eq (k : Int) (n : Nat) (h0 : 0 ≤ k) (hk : k ≤ 1099511627776) (hl : n ≤ 1099511627776) : F_laws_heldByteS (mkB k n, k) = some (k + n) := by
 unfold F_laws_heldByteS L_laws_heldByteS_2
 rw [loop_fuel (fun t : List Int × Int × Int => n - t.2.2.toNat) (fun t => t.1 = mkB k n ∧ t.2.1 = k + t.2.2 ∧ 0 ≤ t.2.2 ∧ t.2.2 ≤ n) (fun t => some (k + n)) ?_ (mkB k n, k, 0) ⟨rfl, by simp, by simp, by simp⟩ (by simp; omega)]
 rintro again ⟨o, k', i⟩ ⟨h1, h2, h3, h4⟩ hag
 simp only at h1 h2 h3 h4 ⊢
 subst h1 h2
 unfold S_laws_heldByteS_2
 simp only [Bool.cond_eq_ite, decide_eq_true_eq]
 have hlen : ((List.length (mkB k n) : Nat) : Int) = n := by rw [mkB_len]
 by_cases hi : i < (n : Int)
 ·have hget : rd_u8 (mkB k n) i = Go.IntKind.wrap .u8 (k + i) := by
   show (mkB k n).getD i.toNat 0 = _
   rw [mkB_get k n i.toNat (by omega), show ((i.toNat : Nat) : Int) = i by omega]
  rw [hlen, if_pos hi, if_pos h3, if_pos hi, hget, if_neg (by simp), w64 (n := i + 1) (by omega) (by omega), w64 (n := k + i + 1) (by omega) (by omega), hag (mkB k n, k + i + 1, i + 1) ⟨rfl, by simp only; omega, by simp only; omega, by simp only; omega⟩ (by simp only; omega)]
 ·rw [hlen, if_neg hi]
  congr 1
  omega
def bigN : Int := 549755813888
theorem set_rd {A : Type} (da : A) (l : List A) (i : Int) (v : A) (h0 : 0 ≤ i) (h1 : i < (List.length l : Int)) : (l.set i.toNat v).getD i.toNat da = v := by
 rw [List.getD_eq_getElem?_getD, List.getElem?_set_self (by omega)]
 rfl
theorem textOf1 (x : Int) : ByteArray.size (textOf [x]) = 1 := rfl
theorem markText_some (x : Int) (h0 : 0 ≤ x) (h1 : x ≤ 1099511627776) : ∃ r, F_laws_markText x = some r := by
 unfold F_laws_markText L_laws_markText_4
 cases hx : decide (x ≤ 0) with
 | true => exact ⟨_, rfl⟩
 | false =>
  rw [cond_false]
  refine loop_prop (step := S_laws_markText_4 _) (fun t : Int × ByteArray => t.1.toNat) (fun t => 0 ≤ t.1 ∧ t.1 + (ByteArray.size t.2 : Int) ≤ 1099511627776) (fun _ o => ∃ r, o = some r) ?_ (x, { data := #[] }) ⟨h0, by
   show x + ((ByteArray.size { data := #[] } : Nat) : Int) ≤ _
   rw [show ByteArray.size { data := #[] } = 0 from rfl]
   omega⟩ (by simp only; omega)
  rintro again ⟨y, t⟩ ⟨a0, a1⟩ hag
  simp only at a0 a1 hag
  unfold S_laws_markText_4
  simp only []
  by_cases hy : y > 0
  ·have ht : Int.tdiv y 10 = y / 10 := Int.tdiv_eq_ediv_of_nonneg a0
   have hsz : ByteArray.size (textOf ([(Go.IntKind.wrap .u8 (Go.IntKind.wrap .i64 ((48 : Int) + (Int.tmod y (10 : Int)))))] : List E_u8)) = 1 := rfl
   rw [decide_eq_true hy, cond_true, if_pos (by rw [hsz]; omega), ht, w64 (n := y / 10) (by omega) (by omega)]
   refine hag (y / 10, _) ⟨by simp only; omega, ?_⟩ (by simp only; omega)
   simp only
   rw [show ByteArray.size (textOf ([(Go.IntKind.wrap .u8 (Go.IntKind.wrap .i64 ((48 : Int) + (Int.tmod y (10 : Int)))))] : List E_u8) ++ t) = 1 + t.size from by rw [ByteArray.size_append]; rfl]
   omega
  ·rw [decide_eq_false hy, cond_false, if_pos (by
    rw [show ByteArray.size { data := #[109] } = 1 from rfl]
    omega)]
   exact ⟨_, rfl⟩
noncomputable def mt (k : Int) : ByteArray := (F_laws_markText k).getD ⟨#[]⟩
theorem markText_eq (x : Int) (h0 : 0 ≤ x) (h1 : x ≤ 1099511627776) : F_laws_markText x = some (mt x) := by
 obtain ⟨r, hr⟩ := markText_some x h0 h1
 unfold mt
 rw [hr]
 rfl
theorem add1 (k : Int) (h0 : 0 ≤ k) (h1 : k ≤ 1099511627776) : Go.IntKind.wrap .i64 (k + 1) = k + 1 := w64 (by omega) (by omega)
end Go.Proofs.YtmapoakbdgpamaaGreat.Pl
namespace Go.Proofs.YtmapoakbdgpamaaGreat.Pl
open Go.Proofs.YtmapoakbdgpamaaGreat.R Go.Proofs.YtmapoakbdgpamaaGreat.XM
theorem l1In_eq (x a b : Int) : F_spec_l1In (x, a, b) = some (inR x a b) := by
 unfold F_spec_l1In inR
 by_cases h : x ≥ a <;> simp [h]
theorem within_eq (x a b : Int) : F_impl_within (x, a, b) = some (inR x a b) := by
 unfold F_impl_within inR
 by_cases h : x ≥ a <;> simp [h]
theorem bi (x y : Int) : ((x == y) = true) = (x = y) := by simp
end Go.Proofs.YtmapoakbdgpamaaGreat.Pl
namespace Go.Proofs.YtmapoakbdgpamaaGreat.Pl
open Go.Proofs.YtmapoakbdgpamaaGreat.R Go.Proofs.YtmapoakbdgpamaaGreat.XM
theorem toIntS_eq (l : List E_i64) (hl : l.length ≤ 1048576) : F_laws_toIntS l = some l := by
 unfold F_laws_toIntS L_laws_toIntS_3
 rw [if_pos (by omega), if_pos (Int.le_refl _), if_pos (by omega)]
 refine copy_loop z_i64 (fun x => some x) l (by omega) ?_ ?_ _ (by simp)
 ·intro again i o h0 h1 h2
  unfold S_laws_toIntS_3
  have hw : Go.IntKind.wrap .i64 (i + 1) = i + 1 := w64 (by omega) (by omega)
  have h3 : i < (o.length : Int) := by omega
  simp only [Bool.cond_eq_ite, decide_eq_true_eq, h0, h1, h3, if_true, hw, if_true, Option.bind_some]
  rfl
 ·intro again i o hi
  unfold S_laws_toIntS_3
  simp only [Bool.cond_eq_ite, decide_eq_true_eq, if_neg hi]
theorem toKeyS_eq (l : List E_Key) (hl : l.length ≤ 1048576) : F_laws_toKeyS l = some l := by
 unfold F_laws_toKeyS L_laws_toKeyS_3
 rw [if_pos (by omega), if_pos (Int.le_refl _), if_pos (by omega)]
 refine copy_loop z_Key (fun x => some x) l (by omega) ?_ ?_ _ (by simp)
 ·intro again i o h0 h1 h2
  unfold S_laws_toKeyS_3
  have hw : Go.IntKind.wrap .i64 (i + 1) = i + 1 := w64 (by omega) (by omega)
  have h3 : i < (o.length : Int) := by omega
  simp only [Bool.cond_eq_ite, decide_eq_true_eq, h0, h1, h3, if_true, hw, F_laws_toKey, Option.bind_some]
  rfl
 ·intro again i o hi
  unfold S_laws_toKeyS_3
  simp only [Bool.cond_eq_ite, decide_eq_true_eq, if_neg hi]
theorem toAgeS_eq (l : List E_Age) (hl : l.length ≤ 1048576) : F_laws_toAgeS l = some l := by
 unfold F_laws_toAgeS L_laws_toAgeS_3
 rw [if_pos (by omega), if_pos (Int.le_refl _), if_pos (by omega)]
 refine copy_loop z_Age (fun x => some x) l (by omega) ?_ ?_ _ (by simp)
 ·intro again i o h0 h1 h2
  unfold S_laws_toAgeS_3
  have hw : Go.IntKind.wrap .i64 (i + 1) = i + 1 := w64 (by omega) (by omega)
  have h3 : i < (o.length : Int) := by omega
  simp only [Bool.cond_eq_ite, decide_eq_true_eq, h0, h1, h3, if_true, hw, F_laws_toAge, Option.bind_some]
  rfl
 ·intro again i o hi
  unfold S_laws_toAgeS_3
  simp only [Bool.cond_eq_ite, decide_eq_true_eq, if_neg hi]
theorem toCellS_eq (l : List E_Cell) (hl : l.length ≤ 1048576) : F_laws_toCellS l = some l := by
 unfold F_laws_toCellS L_laws_toCellS_3
 rw [if_pos (by omega), if_pos (Int.le_refl _), if_pos (by omega)]
 refine copy_loop z_Cell (fun x => some x) l (by omega) ?_ ?_ _ (by simp)
 ·intro again i o h0 h1 h2
  unfold S_laws_toCellS_3
  have hw : Go.IntKind.wrap .i64 (i + 1) = i + 1 := w64 (by omega) (by omega)
  have h3 : i < (o.length : Int) := by omega
  simp only [Bool.cond_eq_ite, decide_eq_true_eq, h0, h1, h3, if_true, hw, F_laws_toCell, Option.bind_some]
  rfl
 ·intro again i o hi
  unfold S_laws_toCellS_3
  simp only [Bool.cond_eq_ite, decide_eq_true_eq, if_neg hi]
theorem toVolS_eq (l : List E_Vol) (hl : l.length ≤ 1048576) : F_laws_toVolS l = some l := by
 unfold F_laws_toVolS L_laws_toVolS_3
 rw [if_pos (by omega), if_pos (Int.le_refl _), if_pos (by omega)]
 refine copy_loop z_Vol (fun x => some x) l (by omega) ?_ ?_ _ (by simp)
 ·intro again i o h0 h1 h2
  unfold S_laws_toVolS_3
  have hw : Go.IntKind.wrap .i64 (i + 1) = i + 1 := w64 (by omega) (by omega)
  have h3 : i < (o.length : Int) := by omega
  simp only [Bool.cond_eq_ite, decide_eq_true_eq, h0, h1, h3, if_true, hw, F_laws_toVol, Option.bind_some]
  rfl
 ·intro again i o hi
  unfold S_laws_toVolS_3
  simp only [Bool.cond_eq_ite, decide_eq_true_eq, if_neg hi]
theorem toKeySS_eq (l : List E_s_Key) (hl : l.length ≤ 1048576) (hm : ∀ a ∈ l, F_laws_toKeyS a = some a) : F_laws_toKeySS l = some l := by
 unfold F_laws_toKeySS L_laws_toKeySS_3
 rw [if_pos (by omega), if_pos (Int.le_refl _), if_pos (by omega)]
 refine copy_loop z_s_Key (fun x => some x) l (by omega) ?_ ?_ _ (by simp)
 ·intro again i o h0 h1 h2
  unfold S_laws_toKeySS_3
  have hw : Go.IntKind.wrap .i64 (i + 1) = i + 1 := w64 (by omega) (by omega)
  have h3 : i < (o.length : Int) := by omega
  have e : F_laws_toKeyS (rd_s_LKey l i) = some (rd_s_LKey l i) := hm _ (getD_mem z_s_Key l i h0 h1)
  simp only [Bool.cond_eq_ite, decide_eq_true_eq, h0, h1, h3, if_true, hw, e, Option.bind_some]
  rfl
 ·intro again i o hi
  unfold S_laws_toKeySS_3
  simp only [Bool.cond_eq_ite, decide_eq_true_eq, if_neg hi]
theorem toNodeS_eq (l : List E_Node) (hl : l.length ≤ 1048576) (hm : ∀ a ∈ l, F_laws_toNode a = some a) : F_laws_toNodeS l = some l := by
 unfold F_laws_toNodeS L_laws_toNodeS_3
 rw [if_pos (by omega), if_pos (Int.le_refl _), if_pos (by omega)]
 refine copy_loop z_Node (fun x => some x) l (by omega) ?_ ?_ _ (by simp)
 ·intro again i o h0 h1 h2
  unfold S_laws_toNodeS_3
  have hw : Go.IntKind.wrap .i64 (i + 1) = i + 1 := w64 (by omega) (by omega)
  have h3 : i < (o.length : Int) := by omega
  have e : F_laws_toNode (rd_LNode l i) = some (rd_LNode l i) := hm _ (getD_mem z_Node l i h0 h1)
  simp only [Bool.cond_eq_ite, decide_eq_true_eq, h0, h1, h3, if_true, hw, e, Option.bind_some]
  rfl
 ·intro again i o hi
  unfold S_laws_toNodeS_3
  simp only [Bool.cond_eq_ite, decide_eq_true_eq, if_neg hi]
theorem eqIntS_refl (l : List E_i64) (hl : l.length ≤ 1048576) : F_laws_eqIntS (l, l) = some true := by
 unfold F_laws_eqIntS L_laws_eqIntS_4
 simp only [bne_self_eq_false, cond_false]
 refine eq_loop (fun _ => some true) l (by omega) ?_ ?_
 ·intro again i h0 h1
  unfold S_laws_eqIntS_4
  have hw : Go.IntKind.wrap .i64 (i + 1) = i + 1 := w64 (by omega) (by omega)
  simp only [Bool.cond_eq_ite, decide_eq_true_eq, h0, h1, if_true, hw, if_true, Option.bind_some, bne_self_eq_false, beq_self_eq_true, Bool.not_true, Bool.false_eq_true, if_false]
 ·intro again i hi
  unfold S_laws_eqIntS_4
  simp only [Bool.cond_eq_ite, decide_eq_true_eq, if_neg hi]
theorem eqKeyS_refl (l : List E_Key) (hl : l.length ≤ 1048576) : F_laws_eqKeyS (l, l) = some true := by
 unfold F_laws_eqKeyS L_laws_eqKeyS_4
 simp only [bne_self_eq_false, cond_false]
 refine eq_loop (fun _ => some true) l (by omega) ?_ ?_
 ·intro again i h0 h1
  unfold S_laws_eqKeyS_4
  have hw : Go.IntKind.wrap .i64 (i + 1) = i + 1 := w64 (by omega) (by omega)
  simp only [Bool.cond_eq_ite, decide_eq_true_eq, h0, h1, if_true, hw, F_laws_eqKey, Option.bind_some, bne_self_eq_false, beq_self_eq_true, Bool.not_true, Bool.false_eq_true, if_false]
 ·intro again i hi
  unfold S_laws_eqKeyS_4
  simp only [Bool.cond_eq_ite, decide_eq_true_eq, if_neg hi]
theorem eqAgeS_refl (l : List E_Age) (hl : l.length ≤ 1048576) : F_laws_eqAgeS (l, l) = some true := by
 unfold F_laws_eqAgeS L_laws_eqAgeS_4
 simp only [bne_self_eq_false, cond_false]
 refine eq_loop (fun _ => some true) l (by omega) ?_ ?_
 ·intro again i h0 h1
  unfold S_laws_eqAgeS_4
  have hw : Go.IntKind.wrap .i64 (i + 1) = i + 1 := w64 (by omega) (by omega)
  simp only [Bool.cond_eq_ite, decide_eq_true_eq, h0, h1, if_true, hw, F_laws_eqAge, Option.bind_some, bne_self_eq_false, beq_self_eq_true, Bool.not_true, Bool.false_eq_true, if_false]
 ·intro again i hi
  unfold S_laws_eqAgeS_4
  simp only [Bool.cond_eq_ite, decide_eq_true_eq, if_neg hi]
theorem eqCellS_refl (l : List E_Cell) (hl : l.length ≤ 1048576) : F_laws_eqCellS (l, l) = some true := by
 unfold F_laws_eqCellS L_laws_eqCellS_4
 simp only [bne_self_eq_false, cond_false]
 refine eq_loop (fun _ => some true) l (by omega) ?_ ?_
 ·intro again i h0 h1
  unfold S_laws_eqCellS_4
  have hw : Go.IntKind.wrap .i64 (i + 1) = i + 1 := w64 (by omega) (by omega)
  simp only [Bool.cond_eq_ite, decide_eq_true_eq, h0, h1, if_true, hw, F_laws_eqCell, Option.bind_some, bne_self_eq_false, beq_self_eq_true, Bool.not_true, Bool.false_eq_true, if_false]
 ·intro again i hi
  unfold S_laws_eqCellS_4
  simp only [Bool.cond_eq_ite, decide_eq_true_eq, if_neg hi]
theorem eqVolS_refl (l : List E_Vol) (hl : l.length ≤ 1048576) : F_laws_eqVolS (l, l) = some true := by
 unfold F_laws_eqVolS L_laws_eqVolS_4
 simp only [bne_self_eq_false, cond_false]
 refine eq_loop (fun _ => some true) l (by omega) ?_ ?_
 ·intro again i h0 h1
  unfold S_laws_eqVolS_4
  have hw : Go.IntKind.wrap .i64 (i + 1) = i + 1 := w64 (by omega) (by omega)
  simp only [Bool.cond_eq_ite, decide_eq_true_eq, h0, h1, if_true, hw, F_laws_eqVol, Option.bind_some, bne_self_eq_false, beq_self_eq_true, Bool.not_true, Bool.false_eq_true, if_false]
 ·intro again i hi
  unfold S_laws_eqVolS_4
  simp only [Bool.cond_eq_ite, decide_eq_true_eq, if_neg hi]
theorem eqKeySS_refl (l : List E_s_Key) (hl : l.length ≤ 1048576) (hm : ∀ a ∈ l, F_laws_eqKeyS (a, a) = some true) : F_laws_eqKeySS (l, l) = some true := by
 unfold F_laws_eqKeySS L_laws_eqKeySS_4
 simp only [bne_self_eq_false, cond_false]
 refine eq_loop (fun _ => some true) l (by omega) ?_ ?_
 ·intro again i h0 h1
  unfold S_laws_eqKeySS_4
  have hw : Go.IntKind.wrap .i64 (i + 1) = i + 1 := w64 (by omega) (by omega)
  have e : F_laws_eqKeyS (rd_s_Key l i, rd_s_Key l i) = some true := hm _ (getD_mem z_s_Key l i h0 h1)
  simp only [Bool.cond_eq_ite, decide_eq_true_eq, h0, h1, if_true, hw, e, Option.bind_some, bne_self_eq_false, beq_self_eq_true, Bool.not_true, Bool.false_eq_true, if_false]
 ·intro again i hi
  unfold S_laws_eqKeySS_4
  simp only [Bool.cond_eq_ite, decide_eq_true_eq, if_neg hi]
theorem eqNodeS_refl (l : List E_Node) (hl : l.length ≤ 1048576) (hm : ∀ a ∈ l, F_laws_eqNode (a, a) = some true) : F_laws_eqNodeS (l, l) = some true := by
 unfold F_laws_eqNodeS L_laws_eqNodeS_4
 simp only [bne_self_eq_false, cond_false]
 refine eq_loop (fun _ => some true) l (by omega) ?_ ?_
 ·intro again i h0 h1
  unfold S_laws_eqNodeS_4
  have hw : Go.IntKind.wrap .i64 (i + 1) = i + 1 := w64 (by omega) (by omega)
  have e : F_laws_eqNode (rd_Node l i, rd_Node l i) = some true := hm _ (getD_mem z_Node l i h0 h1)
  simp only [Bool.cond_eq_ite, decide_eq_true_eq, h0, h1, if_true, hw, e, Option.bind_some, bne_self_eq_false, beq_self_eq_true, Bool.not_true, Bool.false_eq_true, if_false]
 ·intro again i hi
  unfold S_laws_eqNodeS_4
  simp only [Bool.cond_eq_ite, decide_eq_true_eq, if_neg hi]
theorem sz_flat (n : Int) (m : Nat) (hn0 : 0 ≤ n) (hn1 : n ≤ 1048576) (hm : m ≤ maxLen) : szOk n m (bif decide (Go.IntKind.wrap .i64 (n - ((m : Nat) : Int)) < (0 : Int)) then some (-1 : Int) else some (Go.IntKind.wrap .i64 (n - ((m : Nat) : Int)))) := by
 simp only [maxLen] at hm
 rw [w64 (n := n - m) (by omega) (by omega)]
 simp only [Bool.cond_eq_ite, decide_eq_true_eq]
 by_cases h : n - m < 0
 ·rw [if_pos h]
  exact ⟨-1, rfl, .inl (by omega)⟩
 ·rw [if_neg h]
  exact ⟨_, rfl, .inr ⟨by omega, rfl⟩⟩
theorem szIntS_ok (l : List E_i64) (hl : l.length ≤ maxLen) (n : Int) (hn0 : 0 ≤ n) (hn1 : n ≤ 1048576) : szOk n (l.length : Nat) (F_laws_szIntS (l, n)) := sz_flat n l.length hn0 hn1 hl
theorem szKeyS_ok (l : List E_LKey) (hl : l.length ≤ maxLen) (n : Int) (hn0 : 0 ≤ n) (hn1 : n ≤ 1048576) : szOk n (l.length : Nat) (F_laws_szKeyS (l, n)) := sz_flat n l.length hn0 hn1 hl
theorem szAgeS_ok (l : List E_LAge) (hl : l.length ≤ maxLen) (n : Int) (hn0 : 0 ≤ n) (hn1 : n ≤ 1048576) : szOk n (l.length : Nat) (F_laws_szAgeS (l, n)) := sz_flat n l.length hn0 hn1 hl
theorem szCellS_ok (l : List E_LCell) (hl : l.length ≤ maxLen) (n : Int) (hn0 : 0 ≤ n) (hn1 : n ≤ 1048576) : szOk n (l.length : Nat) (F_laws_szCellS (l, n)) := sz_flat n l.length hn0 hn1 hl
theorem szKeySS_ok (l : List E_s_LKey) (hl : l.length ≤ maxLen) (hm : ∀ a ∈ l, List.length a ≤ maxLen) (n : Int) (hn0 : 0 ≤ n) (hn1 : n ≤ 1048576) : szOk n ((l.length : Int) + sumW (fun a : E_s_LKey => (List.length a : Int)) l) (F_laws_szKeySS (l, n)) := by
 simp only [maxLen] at hl
 unfold F_laws_szKeySS L_laws_szKeySS_5
 simp only [Bool.cond_eq_ite, decide_eq_true_eq]
 rw [w64 (n := n - l.length) (by omega) (by omega)]
 by_cases h : n - (l.length : Int) < 0
 ·rw [if_pos h]
  exact ⟨-1, rfl, .inl (by omega)⟩
 ·rw [if_neg h]
  have hs : ∀ again (n i r : Int), 0 ≤ i → i < (l.length : Int) → F_laws_szKeyS (l.getD i.toNat z_s_LKey, n) = some r → S_laws_szKeySS_5 (fun x2 => some x2.2) (fun x3 => some x3) again (l, n, i) = if r < 0 then some (-1 : Int) else again (l, r, i + 1) := by
   intro again n i r h0 h1 hr
   unfold S_laws_szKeySS_5
   have hw : Go.IntKind.wrap .i64 (i + 1) = i + 1 := w64 (by omega) (by omega)
   have hr' : F_laws_szKeyS ((rd_s_LKey l i), n) = some r := hr
   simp only [Bool.cond_eq_ite, decide_eq_true_eq, h0, h1, if_true, hw, hr', Option.bind_some]
  have hd : ∀ again (n i : Int), ¬ i < (l.length : Int) → S_laws_szKeySS_5 (fun x2 => some x2.2) (fun x3 => some x3) again (l, n, i) = some n := by
   intro again n i hi
   unfold S_laws_szKeySS_5
   simp only [Bool.cond_eq_ite, decide_eq_true_eq, if_neg hi]
  rcases sz_loop z_s_LKey (fun a : E_s_LKey => (List.length a : Int)) (fun a n => F_laws_szKeyS (a, n)) (step := S_laws_szKeySS_5 (fun x2 => some x2.2) (fun x3 => some x3)) (fun x2 => some x2.2) (fun x3 => some x3) l (by omega) (fun a => by exact Int.natCast_nonneg _) (fun a ha n h0 h1 => szKeyS_ok a (hm a ha) n h0 h1) hs hd (n - l.length) (by omega) (by omega) with ⟨r, e⟩ | ⟨r, r0, r1, e⟩
  ·rw [e]
   exact ⟨-1, rfl, .inl (by omega)⟩
  ·rw [e]
   exact ⟨r, rfl, .inr ⟨r0, by omega⟩⟩
def wSets (l : List E_s_LKey) : Int := (List.length l : Int) + sumW (fun a : E_s_LKey => (List.length a : Int)) l
theorem wSets_nonneg (l : List E_s_LKey) : 0 ≤ wSets l := by
 have := sumW_nonneg (w := fun a : E_s_LKey => (List.length a : Int)) (fun a => Int.natCast_nonneg _) l
 unfold wSets
 omega
theorem szNode_ok (l : List E_s_LKey) (hl : l.length ≤ maxLen) (hm : ∀ a ∈ l, List.length a ≤ maxLen) (n : Int) (hn0 : 0 ≤ n) (hn1 : n ≤ 1048576) : szOk n (wSets l) (F_laws_szNode (l, n)) := by
 obtain ⟨r, hr, hc⟩ := szKeySS_ok l hl hm n hn0 hn1
 unfold F_laws_szNode
 simp only [hr, Option.bind_some, Bool.cond_eq_ite, decide_eq_true_eq]
 rcases hc with hc | ⟨h0, h1⟩
 ·rw [if_pos hc]
  exact ⟨-1, rfl, .inl (by omega)⟩
 ·rw [if_neg (by omega)]
  exact ⟨r, rfl, .inr ⟨h0, h1⟩⟩
theorem szNodeS_ok (l : List E_LNode) (hl : l.length ≤ maxLen) (hm : ∀ a ∈ l, List.length a ≤ maxLen ∧ ∀ b ∈ (show List E_s_LKey from a), List.length b ≤ maxLen) (n : Int) (hn0 : 0 ≤ n) (hn1 : n ≤ 1048576) : szOk n ((l.length : Int) + sumW (wSets) l) (F_laws_szNodeS (l, n)) := by
 simp only [maxLen] at hl
 unfold F_laws_szNodeS L_laws_szNodeS_5
 simp only [Bool.cond_eq_ite, decide_eq_true_eq]
 rw [w64 (n := n - l.length) (by omega) (by omega)]
 by_cases h : n - (l.length : Int) < 0
 ·rw [if_pos h]
  exact ⟨-1, rfl, .inl (by omega)⟩
 ·rw [if_neg h]
  have hs : ∀ again (n i r : Int), 0 ≤ i → i < (l.length : Int) → F_laws_szNode (l.getD i.toNat z_LNode, n) = some r → S_laws_szNodeS_5 (fun x2 => some x2.2) (fun x3 => some x3) again (l, n, i) = if r < 0 then some (-1 : Int) else again (l, r, i + 1) := by
   intro again n i r h0 h1 hr
   unfold S_laws_szNodeS_5
   have hw : Go.IntKind.wrap .i64 (i + 1) = i + 1 := w64 (by omega) (by omega)
   have hr' : F_laws_szNode ((rd_LNode l i), n) = some r := hr
   simp only [Bool.cond_eq_ite, decide_eq_true_eq, h0, h1, if_true, hw, hr', Option.bind_some]
  have hd : ∀ again (n i : Int), ¬ i < (l.length : Int) → S_laws_szNodeS_5 (fun x2 => some x2.2) (fun x3 => some x3) again (l, n, i) = some n := by
   intro again n i hi
   unfold S_laws_szNodeS_5
   simp only [Bool.cond_eq_ite, decide_eq_true_eq, if_neg hi]
  rcases sz_loop z_LNode (wSets) (fun a n => F_laws_szNode (a, n)) (step := S_laws_szNodeS_5 (fun x2 => some x2.2) (fun x3 => some x3)) (fun x2 => some x2.2) (fun x3 => some x3) l (by omega) (fun a => by exact wSets_nonneg a) (fun a ha n h0 h1 => szNode_ok a (hm a ha).1 (hm a ha).2 n h0 h1) hs hd (n - l.length) (by omega) (by omega) with ⟨r, e⟩ | ⟨r, r0, r1, e⟩
  ·rw [e]
   exact ⟨-1, rfl, .inl (by omega)⟩
  ·rw [e]
   exact ⟨r, rfl, .inr ⟨r0, by omega⟩⟩
theorem szVolS_ok (l : List E_LVol) (hl : l.length ≤ maxLen) (hm : ∀ a ∈ l, ByteArray.size a.1 ≤ maxLen) (n : Int) (hn0 : 0 ≤ n) (hn1 : n ≤ 1048576) : szOk n ((l.length : Int) + sumW (fun a : E_LVol => (ByteArray.size a.1 : Int)) l) (F_laws_szVolS (l, n)) := by
 simp only [maxLen] at hl
 unfold F_laws_szVolS L_laws_szVolS_5
 simp only [Bool.cond_eq_ite, decide_eq_true_eq]
 rw [w64 (n := n - l.length) (by omega) (by omega)]
 by_cases h : n - (l.length : Int) < 0
 ·rw [if_pos h]
  exact ⟨-1, rfl, .inl (by omega)⟩
 ·rw [if_neg h]
  have hs : ∀ again (n i r : Int), 0 ≤ i → i < (l.length : Int) → F_laws_szVol ((l.getD i.toNat z_LVol).1, (l.getD i.toNat z_LVol).2.1, (l.getD i.toNat z_LVol).2.2.1, (l.getD i.toNat z_LVol).2.2.2, n) = some r → S_laws_szVolS_5 (fun x2 => some x2.2) (fun x3 => some x3) again (l, n, i) = if r < 0 then some (-1 : Int) else again (l, r, i + 1) := by
   intro again n i r h0 h1 hr
   unfold S_laws_szVolS_5
   have hw : Go.IntKind.wrap .i64 (i + 1) = i + 1 := w64 (by omega) (by omega)
   have hr' : F_laws_szVol ((rd_LVol l i).1, (rd_LVol l i).2.1, (rd_LVol l i).2.2.1, (rd_LVol l i).2.2.2, n) = some r := hr
   simp only [Bool.cond_eq_ite, decide_eq_true_eq, h0, h1, if_true, hw, hr', Option.bind_some]
  have hd : ∀ again (n i : Int), ¬ i < (l.length : Int) → S_laws_szVolS_5 (fun x2 => some x2.2) (fun x3 => some x3) again (l, n, i) = some n := by
   intro again n i hi
   unfold S_laws_szVolS_5
   simp only [Bool.cond_eq_ite, decide_eq_true_eq, if_neg hi]
  rcases sz_loop z_LVol (fun a : E_LVol => (ByteArray.size a.1 : Int)) (fun a n => F_laws_szVol (a.1, a.2.1, a.2.2.1, a.2.2.2, n)) (step := S_laws_szVolS_5 (fun x2 => some x2.2) (fun x3 => some x3)) (fun x2 => some x2.2) (fun x3 => some x3) l (by omega) (fun a => by exact Int.natCast_nonneg _) (fun a ha n h0 h1 => sz_flat n (ByteArray.size a.1) h0 h1 (hm a ha)) hs hd (n - l.length) (by omega) (by omega) with ⟨r, e⟩ | ⟨r, r0, r1, e⟩
  ·rw [e]
   exact ⟨-1, rfl, .inl (by omega)⟩
  ·rw [e]
   exact ⟨r, rfl, .inr ⟨r0, by omega⟩⟩
end Go.Proofs.YtmapoakbdgpamaaGreat.Pl
namespace Go.Proofs.YtmapoakbdgpamaaGreat.Pl
open Go.Proofs.YtmapoakbdgpamaaGreat.R Go.Proofs.YtmapoakbdgpamaaGreat.XM
theorem fold_loop {T A S R : Type} {step : (T → Option R) → T → Option R} (mk : Int → S → T) (k : S → Option R) (da : A) (g : S → A → S) (l : List A) (hl : l.length ≤ 1099511627776) (I : Nat → S → Prop)
  (h : ∀ again i s, 0 ≤ i → i < (l.length : Int) → I i.toNat s → step again (mk i s) = again (mk (i + 1) (g s (l.getD i.toNat da))) ∧ I (i.toNat + 1) (g s (l.getD i.toNat da)))
  (hd : ∀ again i s, ¬ i < (l.length : Int) → step again (mk i s) = k s) (s : S) (hs : I 0 s) : iter step FUEL (mk 0 s) = k (l.foldl g s) := by
 have key : ∀ (n : Nat) (i : Int) (s : S), 0 ≤ i → i ≤ l.length → I i.toNat s → l.length - i.toNat < n → iter step n (mk i s) = k ((l.drop i.toNat).foldl g s) := by
  intro n
  induction n with
  | zero => intro i s _ _ _ hn; omega
  | succ n ih =>
   intro i s h0 h1 hI hn
   rw [iter]
   by_cases hi : i < (l.length : Int)
   ·obtain ⟨e, hI'⟩ := h (iter step n) i s h0 hi hI
    have e1 : (i + 1).toNat = i.toNat + 1 := by omega
    rw [e, ih (i + 1) _ (by omega) (by omega) (by rw [e1]; exact hI') (by omega), drop_getD da l i h0 hi]
    rfl
   ·rw [hd _ i s hi, List.drop_of_length_le (by omega)]
    rfl
 have := key FUEL 0 s (by omega) (by omega) hs (by rw [FUEL_eq]; simp; omega)
 simpa using this
def lessK (c k : E_Key) : Bool := if c.1 < k.1 then true else if c.1 = k.1 then decide (c.2.1 < k.2.1) else false
def sameK (c k : E_Key) : Bool := decide (c.1 = k.1) && decide (c.2.1 = k.2.1)
theorem spec_LessKey_eq (a1 a2 a3 a4 a5 b1 b2 b3 b4 b5 : Int) : F_spec_LessKey (a1, a2, a3, a4, a5, b1, b2, b3, b4, b5) = some (lessK (a1, a2, a3, a4, a5) (b1, b2, b3, b4, b5)) := by
 unfold F_spec_LessKey lessK
 by_cases h : a1 = b1
 ·subst h
  simp
 ·have hb : (a1 == b1) = false := by simpa using h
  have hb' : (a1 != b1) = true := by simpa using h
  by_cases h2 : a1 < b1 <;> simp [h, h2, hb, hb']
theorem impl_LessKey_eq (a1 a2 a3 a4 a5 b1 b2 b3 b4 b5 : Int) : F_impl_LessKey (a1, a2, a3, a4, a5, b1, b2, b3, b4, b5) = some (lessK (a1, a2, a3, a4, a5) (b1, b2, b3, b4, b5)) := by
 unfold F_impl_LessKey lessK
 by_cases h : a1 = b1
 ·subst h
  simp
 ·have hb : (a1 == b1) = false := by simpa using h
  have hb' : (a1 != b1) = true := by simpa using h
  by_cases h2 : a1 < b1 <;> simp [h, h2, hb, hb']
theorem spec_SameSpot_eq (a1 a2 a3 a4 a5 b1 b2 b3 b4 b5 : Int) : F_spec_SameSpot (a1, a2, a3, a4, a5, b1, b2, b3, b4, b5) = some (sameK (a1, a2, a3, a4, a5) (b1, b2, b3, b4, b5)) := by
 unfold F_spec_SameSpot sameK
 have e1 : (a1 == b1) = decide (a1 = b1) := rfl
 have e2 : (a2 == b2) = decide (a2 = b2) := rfl
 simp only [e1, e2]
 cases decide (a1 = b1) <;> cases decide (a2 = b2) <;> rfl
theorem impl_SameSpot_eq (a1 a2 a3 a4 a5 b1 b2 b3 b4 b5 : Int) : F_impl_SameSpot (a1, a2, a3, a4, a5, b1, b2, b3, b4, b5) = some (sameK (a1, a2, a3, a4, a5) (b1, b2, b3, b4, b5)) := by
 unfold F_impl_SameSpot sameK
 have e1 : (a1 == b1) = decide (a1 = b1) := rfl
 have e2 : (a2 == b2) = decide (a2 = b2) := rfl
 simp only [e1, e2]
 cases decide (a1 = b1) <;> cases decide (a2 = b2) <;> rfl
theorem lt40 {n k : Nat} (h : n ≤ 1073741825) (hk : (1073741825 + k) * 40 < 140737488355328) : (n + k) * 40 < 140737488355328 := by omega
def spOne (k : E_Key) (s : Bool × List E_Key) (c : E_Key) : Bool × List E_Key :=
 if s.1 = false ∧ lessK c k = false then (true, if sameK c k then s.2 ++ [k] else s.2 ++ [k] ++ [c]) else (s.1, if sameK c k then s.2 else s.2 ++ [c])
def setPut (l : List E_Key) (k : E_Key) : List E_Key :=
 let r := l.foldl (spOne k) (false, [])
 if r.1 then r.2 else r.2 ++ [k]
def pN (p : Bool) : Nat := if p then 1 else 0
theorem spOne_len (k : E_Key) (s : Bool × List E_Key) (c : E_Key) : (spOne k s c).2.length + pN s.1 ≤ s.2.length + 1 + pN (spOne k s c).1 ∧ pN (spOne k s c).1 ≤ 1 := by
 unfold spOne pN
 obtain ⟨p, o⟩ := s
 cases p <;> cases lessK c k <;> cases sameK c k <;> simp
theorem spFold_len (k : E_Key) : ∀ (l : List E_Key) (s : Bool × List E_Key), (l.foldl (spOne k) s).2.length + pN s.1 ≤ s.2.length + l.length + pN (l.foldl (spOne k) s).1
 | [], s => by simp
 | c :: l, s => by
  have h1 := (spOne_len k s c).1
  have h2 := spFold_len k l (spOne k s c)
  simp only [List.foldl_cons, List.length_cons] at h2 ⊢
  omega
theorem setPut_len (l : List E_Key) (k : E_Key) : (setPut l k).length ≤ l.length + 1 := by
 have h := spFold_len k l (false, [])
 unfold setPut
 simp only [pN, List.length_nil, Bool.false_eq_true, if_false] at h ⊢
 cases hr : (l.foldl (spOne k) (false, [])).1 with
 | true =>
  rw [hr] at h
  simp at h ⊢
  omega
 | false =>
  rw [hr] at h
  simp at h ⊢
  omega
theorem spec_SetPut_step {R : Type} (k0 : Bool × Int × Int × Int × Int × Int × List E_Key → Option R) (again : T_spec_SetPut_4 → Option R) (l : List E_Key) (i : Int) (p : Bool) (a b c d e : Int) (o : List E_Key) (hl : l.length ≤ 1073741824) (h0 : 0 ≤ i) (h1 : i < (l.length : Int)) (ho : o.length ≤ 1073741825) :
  S_spec_SetPut_4 k0 again (l, p, i, a, b, c, d, e, o) = again (l, (spOne (a, b, c, d, e) (p, o) (l.getD i.toNat z_Key)).1, i + 1, a, b, c, d, e, (spOne (a, b, c, d, e) (p, o) (l.getD i.toNat z_Key)).2) := by
 have hw : Go.IntKind.wrap .i64 (i + 1) = i + 1 := w64 (by omega) (by omega)
 have c1 : (o.length + (0 + 1)) * 40 < 140737488355328 := lt40 ho (by decide)
 have c2 : (o.length + (0 + 1) + (0 + 1)) * 40 < 140737488355328 := by rw [Nat.add_assoc]; exact lt40 ho (by decide)
 obtain ⟨⟨x1, x2, x3, x4, x5⟩, hx⟩ : ∃ x, rd_Key l i = x := ⟨_, rfl⟩
 have hx' : l.getD i.toNat z_Key = (x1, x2, x3, x4, x5) := hx
 rw [hx']
 unfold S_spec_SetPut_4
 simp only [Bool.cond_eq_ite, decide_eq_true_eq, h0, h1, if_true, hw, hx, spec_LessKey_eq, spec_SameSpot_eq, Option.bind_some, List.length_append, List.length_cons, List.length_nil]
 unfold spOne
 generalize lessK (x1, x2, x3, x4, x5) (a, b, c, d, e) = q1
 generalize sameK (x1, x2, x3, x4, x5) (a, b, c, d, e) = q2
 simp only [c1, c2, if_true]
 cases p <;> cases q1 <;> cases q2 <;> rfl
theorem spec_SetPut_loop {R : Type} (k0 : Bool × Int × Int × Int × Int × Int × List E_Key → Option R) (l : List E_Key) (a b c d e : Int) (hl : l.length ≤ 1073741824) :
  L_spec_SetPut_4 k0 (l, false, 0, a, b, c, d, e, []) = k0 ((l.foldl (spOne (a, b, c, d, e)) (false, [])).1, a, b, c, d, e, (l.foldl (spOne (a, b, c, d, e)) (false, [])).2) := by
 unfold L_spec_SetPut_4
 refine fold_loop (step := S_spec_SetPut_4 k0) (fun (i : Int) (s : Bool × List E_Key) => (l, s.1, i, a, b, c, d, e, s.2)) (fun s => k0 (s.1, a, b, c, d, e, s.2)) z_Key (spOne (a, b, c, d, e)) l (by omega) (fun i s => s.2.length ≤ i + pN s.1) ?_ ?_ (false, []) (by simp)
 ·rintro again i ⟨p, o⟩ h0 h1 hI
  have hp : pN p ≤ 1 := by cases p <;> decide
  have hI' : o.length ≤ i.toNat + pN p := hI
  clear hI
  refine ⟨spec_SetPut_step k0 again l i p a b c d e o hl h0 h1 (by omega), ?_⟩
  have ho := (spOne_len (a, b, c, d, e) (p, o) (l.getD i.toNat z_Key)).1
  show (spOne (a, b, c, d, e) (p, o) (l.getD i.toNat z_Key)).2.length ≤ i.toNat + 1 + pN (spOne (a, b, c, d, e) (p, o) (l.getD i.toNat z_Key)).1
  generalize (spOne (a, b, c, d, e) (p, o) (l.getD i.toNat z_Key)) = r at ho ⊢
  simp only at ho
  omega
 ·rintro again i ⟨p, o⟩ hi
  show S_spec_SetPut_4 k0 again (l, p, i, a, b, c, d, e, o) = _
  unfold S_spec_SetPut_4
  simp only [Bool.cond_eq_ite, decide_eq_true_eq, if_neg hi]
theorem spec_SetPut_eq (l : List E_Key) (a b c d e : Int) (hl : l.length ≤ 1073741824) : F_spec_SetPut (l, a, b, c, d, e) = some (setPut l (a, b, c, d, e)) := by
 have hlen := spFold_len (a, b, c, d, e) l (false, [])
 unfold F_spec_SetPut setPut
 rw [spec_SetPut_loop _ l a b c d e hl]
 generalize l.foldl (spOne (a, b, c, d, e)) (false, []) = r at hlen ⊢
 obtain ⟨q, o⟩ := r
 cases q with
 | true => rfl
 | false =>
  simp only [pN, List.length_nil, Bool.false_eq_true, if_false] at hlen
  simp only [Bool.not_false, cond_true, List.length_cons, List.length_nil, Bool.false_eq_true, if_false]
  rw [if_pos (by omega)]
theorem impl_SetPut_step {R : Type} (k0 : Bool × Int × Int × Int × Int × Int × List E_Key → Option R) (again : T_impl_SetPut_4 → Option R) (l : List E_Key) (i : Int) (p : Bool) (a b c d e : Int) (o : List E_Key) (hl : l.length ≤ 1073741824) (h0 : 0 ≤ i) (h1 : i < (l.length : Int)) (ho : o.length ≤ 1073741825) :
  S_impl_SetPut_4 k0 again (p, l, (l.length : Int), i, a, b, c, d, e, o) = again ((spOne (a, b, c, d, e) (p, o) (l.getD i.toNat z_Key)).1, l, (l.length : Int), i + 1, a, b, c, d, e, (spOne (a, b, c, d, e) (p, o) (l.getD i.toNat z_Key)).2) := by
 have hw : Go.IntKind.wrap .i64 (i + 1) = i + 1 := w64 (by omega) (by omega)
 have c1 : (o.length + (0 + 1)) * 40 < 140737488355328 := lt40 ho (by decide)
 have c2 : (o.length + (0 + 1) + (0 + 1)) * 40 < 140737488355328 := by rw [Nat.add_assoc]; exact lt40 ho (by decide)
 obtain ⟨⟨x1, x2, x3, x4, x5⟩, hx⟩ : ∃ x, rd_Key l i = x := ⟨_, rfl⟩
 have hx' : l.getD i.toNat z_Key = (x1, x2, x3, x4, x5) := hx
 rw [hx']
 unfold S_impl_SetPut_4
 simp only [Bool.cond_eq_ite, decide_eq_true_eq, h0, h1, if_true, hw, hx, impl_LessKey_eq, impl_SameSpot_eq, Option.bind_some, List.length_append, List.length_cons, List.length_nil]
 unfold spOne
 generalize lessK (x1, x2, x3, x4, x5) (a, b, c, d, e) = q1
 generalize sameK (x1, x2, x3, x4, x5) (a, b, c, d, e) = q2
 simp only [c1, c2, if_true]
 cases p <;> cases q1 <;> cases q2 <;> rfl
theorem impl_SetPut_loop {R : Type} (k0 : Bool × Int × Int × Int × Int × Int × List E_Key → Option R) (l : List E_Key) (a b c d e : Int) (hl : l.length ≤ 1073741824) :
  L_impl_SetPut_4 k0 (false, l, (l.length : Int), 0, a, b, c, d, e, []) = k0 ((l.foldl (spOne (a, b, c, d, e)) (false, [])).1, a, b, c, d, e, (l.foldl (spOne (a, b, c, d, e)) (false, [])).2) := by
 unfold L_impl_SetPut_4
 refine fold_loop (step := S_impl_SetPut_4 k0) (fun (i : Int) (s : Bool × List E_Key) => (s.1, l, (l.length : Int), i, a, b, c, d, e, s.2)) (fun s => k0 (s.1, a, b, c, d, e, s.2)) z_Key (spOne (a, b, c, d, e)) l (by omega) (fun i s => s.2.length ≤ i + pN s.1) ?_ ?_ (false, []) (by simp)
 ·rintro again i ⟨p, o⟩ h0 h1 hI
  have hp : pN p ≤ 1 := by cases p <;> decide
  have hI' : o.length ≤ i.toNat + pN p := hI
  clear hI
  refine ⟨impl_SetPut_step k0 again l i p a b c d e o hl h0 h1 (by omega), ?_⟩
  have ho := (spOne_len (a, b, c, d, e) (p, o) (l.getD i.toNat z_Key)).1
  show (spOne (a, b, c, d, e) (p, o) (l.getD i.toNat z_Key)).2.length ≤ i.toNat + 1 + pN (spOne (a, b, c, d, e) (p, o) (l.getD i.toNat z_Key)).1
  generalize (spOne (a, b, c, d, e) (p, o) (l.getD i.toNat z_Key)) = r at ho ⊢
  simp only at ho
  omega
 ·rintro again i ⟨p, o⟩ hi
  show S_impl_SetPut_4 k0 again (p, l, (l.length : Int), i, a, b, c, d, e, o) = _
  unfold S_impl_SetPut_4
  simp only [Bool.cond_eq_ite, decide_eq_true_eq, if_neg hi]
theorem impl_SetPut_eq (l : List E_Key) (a b c d e : Int) (hl : l.length ≤ 1073741824) : F_impl_SetPut (l, a, b, c, d, e) = some (setPut l (a, b, c, d, e)) := by
 have hlen := spFold_len (a, b, c, d, e) l (false, [])
 unfold F_impl_SetPut setPut
 rw [impl_SetPut_loop _ l a b c d e hl]
 generalize l.foldl (spOne (a, b, c, d, e)) (false, []) = r at hlen ⊢
 obtain ⟨q, o⟩ := r
 cases q with
 | true => rfl
 | false =>
  simp only [pN, List.length_nil, Bool.false_eq_true, if_false] at hlen
  simp only [Bool.not_false, cond_true, List.length_cons, List.length_nil, Bool.false_eq_true, if_false]
  rw [if_pos (by omega)]
end Go.Proofs.YtmapoakbdgpamaaGreat.Pl
namespace Go.Proofs.YtmapoakbdgpamaaGreat.Pl
open Go.Proofs.YtmapoakbdgpamaaGreat.R Go.Proofs.YtmapoakbdgpamaaGreat.XM
def mergeK (a b : List E_Key) : List E_Key := b.foldl setPut a
theorem mergeK_len : ∀ (b a : List E_Key), (mergeK a b).length ≤ a.length + b.length
 | [], a => by simp [mergeK]
 | c :: b, a => by
  have h := mergeK_len b (setPut a c)
  have h2 := setPut_len a c
  unfold mergeK at h ⊢
  simp only [List.foldl_cons, List.length_cons] at h ⊢
  omega
def dropOne (s : List E_Key) (c : E_Key) : List E_Key := if c.2.2.1 = 0 then s else s ++ [c]
def dropK (l : List E_Key) : List E_Key := l.foldl dropOne []
theorem dropOne_len (s : List E_Key) (c : E_Key) : (dropOne s c).length ≤ s.length + 1 := by
 unfold dropOne
 split <;> simp
theorem dropF_len : ∀ (l s : List E_Key), (l.foldl dropOne s).length ≤ s.length + l.length
 | [], s => by simp
 | c :: l, s => by
  have h := dropF_len l (dropOne s c)
  have h2 := dropOne_len s c
  simp only [List.foldl_cons, List.length_cons]
  omega
def lenK (a : E_s_LKey) : Int := (List.length a : Int)
theorem lenK_nonneg (a : E_s_LKey) : 0 ≤ lenK a := Int.natCast_nonneg _
def nodeK (n : List E_s_LKey) : List E_Key := dropK (n.foldl mergeK [])
theorem nodeF_len : ∀ (n : List E_s_LKey) (s : List E_Key), ((n.foldl mergeK s).length : Int) ≤ s.length + sumW lenK n
 | [], s => by simp [sumW]
 | c :: n, s => by
  have h := nodeF_len n (mergeK s c)
  have h2 := mergeK_len c s
  simp only [List.foldl_cons, sumW_cons, lenK]
  omega
theorem nodeK_len (n : List E_s_LKey) : ((nodeK n).length : Int) ≤ sumW lenK n := by
 have h := dropF_len (n.foldl mergeK []) []
 have h2 := nodeF_len n []
 unfold nodeK dropK
 simp only [List.length_nil] at h h2
 omega
theorem wSets_ge (n : List E_s_LKey) : sumW lenK n ≤ wSets n := by
 show sumW (fun a : E_s_LKey => (List.length a : Int)) n ≤ (List.length n : Int) + sumW (fun a : E_s_LKey => (List.length a : Int)) n
 omega
def treeOne (s : List E_Key) (n : E_LNode) : List E_Key := s ++ nodeK n
def treeK (t : List E_LNode) : List E_Key := t.foldl treeOne []
theorem spec_MergeSets_eq (a b : List E_Key) (h : a.length + b.length ≤ 1073741824) : F_spec_MergeSets (a, b) = some (mergeK a b) := by
 unfold F_spec_MergeSets L_spec_MergeSets_3
 simp only [List.length_nil, Nat.zero_add, List.nil_append]
 rw [if_pos (by omega)]
 refine fold_loop (step := S_spec_MergeSets_3 _) (fun (i : Int) (s : List E_Key) => (b, i, s)) (fun s => some s) z_Key setPut b (by omega) (fun i s => s.length ≤ a.length + i) ?_ ?_ a (by simp)
 ·intro again i s h0 h1 hI
  have hw : Go.IntKind.wrap .i64 (i + 1) = i + 1 := w64 (by omega) (by omega)
  have hs := setPut_len s (b.getD i.toNat z_Key)
  have e := spec_SetPut_eq s (rd_Key b i).1 (rd_Key b i).2.1 (rd_Key b i).2.2.1 (rd_Key b i).2.2.2.1 (rd_Key b i).2.2.2.2 (by omega)
  refine ⟨?_, by omega⟩
  unfold S_spec_MergeSets_3
  simp only [Bool.cond_eq_ite, decide_eq_true_eq, h0, h1, if_true, hw, e, Option.bind_some]
  rfl
 ·intro again i s hi
  unfold S_spec_MergeSets_3
  simp only [Bool.cond_eq_ite, decide_eq_true_eq, if_neg hi]
theorem spec_Drop_eq (l : List E_Key) (h : l.length ≤ 1073741824) : F_spec_Drop l = some (dropK l) := by
 unfold F_spec_Drop L_spec_Drop_3
 refine fold_loop (step := S_spec_Drop_3 _) (fun (i : Int) (s : List E_Key) => (l, i, s)) (fun s => some s) z_Key dropOne l (by omega) (fun i s => s.length ≤ i) ?_ ?_ [] (by simp)
 ·intro again i s h0 h1 hI
  have hw : Go.IntKind.wrap .i64 (i + 1) = i + 1 := w64 (by omega) (by omega)
  have hs := dropOne_len s (l.getD i.toNat z_Key)
  refine ⟨?_, by omega⟩
  have c1 : (s.length + 1) * 40 < 140737488355328 := by omega
  clear hs
  unfold S_spec_Drop_3 dropOne
  obtain ⟨⟨x1, x2, x3, x4, x5⟩, hx⟩ : ∃ x, rd_Key l i = x := ⟨_, rfl⟩
  have hx' : l.getD i.toNat z_Key = (x1, x2, x3, x4, x5) := hx
  rw [hx']
  simp only [Bool.cond_eq_ite, decide_eq_true_eq, h0, h1, if_true, hw, hx, List.length_cons, List.length_nil, Nat.zero_add, c1]
  by_cases h3 : x3 = 0
  ·rw [if_neg (by simpa using h3), if_pos h3]
  ·rw [if_pos (by simpa using h3), if_neg h3]
 ·intro again i s hi
  unfold S_spec_Drop_3
  simp only [Bool.cond_eq_ite, decide_eq_true_eq, if_neg hi]
theorem spec_NodeKeys_eq (n : List E_s_Key) (hn : n.length ≤ 1073741824) (h : sumW lenK n ≤ 1048576) : F_spec_NodeKeys n = some (nodeK n) := by
 have hlen := nodeF_len n []
 simp only [List.length_nil] at hlen
 have hD := spec_Drop_eq (n.foldl mergeK []) (by omega)
 unfold F_spec_NodeKeys L_spec_NodeKeys_3
 refine (fold_loop (step := S_spec_NodeKeys_3 _) (fun (i : Int) (s : List E_Key) => (i, n, s)) (fun s => Option.bind (F_spec_Drop s) fun r3 => some r3) z_s_Key mergeK n (by omega) (fun i s => (s.length : Int) + sumW lenK (n.drop i) ≤ sumW lenK n) ?_ ?_ [] (by simp)).trans ?_
 ·intro again i s h0 h1 hI
  have hw : Go.IntKind.wrap .i64 (i + 1) = i + 1 := w64 (by omega) (by omega)
  rw [drop_getD z_s_Key n i h0 h1, sumW_cons, show (i + 1).toNat = i.toNat + 1 by omega] at hI
  have hnn := sumW_nonneg lenK_nonneg (n.drop (i.toNat + 1))
  have hm := mergeK_len (n.getD i.toNat z_s_Key) s
  have hk : lenK (n.getD i.toNat z_s_Key) = (List.length (n.getD i.toNat z_s_Key) : Int) := rfl
  have e : F_spec_MergeSets (s, rd_s_Key n i) = some (mergeK s (rd_s_Key n i)) := spec_MergeSets_eq s _ (by show s.length + List.length (n.getD i.toNat z_s_Key) ≤ _; omega)
  refine ⟨?_, by omega⟩
  unfold S_spec_NodeKeys_3
  simp only [Bool.cond_eq_ite, decide_eq_true_eq, h0, h1, if_true, hw, e, Option.bind_some]
  rfl
 ·intro again i s hi
  unfold S_spec_NodeKeys_3
  simp only [Bool.cond_eq_ite, decide_eq_true_eq, if_neg hi]
 ·rw [hD]
  rfl
theorem spec_TreeKeys_eq (q : List Int) (t : List E_Node) (ht : t.length ≤ 1073741824) (hm : ∀ n ∈ t, List.length n ≤ 1073741824) (h : sumW wSets t ≤ 1048576) : F_spec_TreeKeys (q, t) = some (treeK t) := by
 unfold F_spec_TreeKeys L_spec_TreeKeys_3
 refine fold_loop (step := S_spec_TreeKeys_3 _) (fun (i : Int) (s : List E_Key) => (i, q, t, s)) (fun s => some s) z_Node treeOne t (by omega) (fun i s => (s.length : Int) + sumW wSets (t.drop i) ≤ sumW wSets t) ?_ ?_ [] (by simp)
 ·intro again i s h0 h1 hI
  have hw : Go.IntKind.wrap .i64 (i + 1) = i + 1 := w64 (by omega) (by omega)
  rw [drop_getD z_Node t i h0 h1, sumW_cons, show (i + 1).toNat = i.toNat + 1 by omega] at hI
  have hnn := sumW_nonneg wSets_nonneg (t.drop (i.toNat + 1))
  have hge := wSets_ge (t.getD i.toNat z_Node)
  have hk := nodeK_len (t.getD i.toNat z_Node)
  have e : F_spec_NodeKeys (rd_Node t i) = some (nodeK (rd_Node t i)) := spec_NodeKeys_eq _ (hm _ (getD_mem z_Node t i h0 h1)) (by show sumW lenK (t.getD i.toNat z_Node) ≤ _; omega)
  have hT : (treeOne s (t.getD i.toNat z_Node)).length = s.length + (nodeK (t.getD i.toNat z_Node)).length := List.length_append
  have c1 : (s.length + (nodeK (rd_Node t i)).length) * 40 < 140737488355328 := by
   show (s.length + (nodeK (t.getD i.toNat z_Node)).length) * 40 < 140737488355328
   generalize (nodeK (t.getD i.toNat z_Node)).length = m at hk ⊢
   clear hT e
   have : s.length + m ≤ 1048576 := by omega
   omega
  refine ⟨?_, by rw [hT]; omega⟩
  unfold S_spec_TreeKeys_3
  simp only [Bool.cond_eq_ite, decide_eq_true_eq, h0, h1, if_true, hw, e, Option.bind_some, c1]
  rfl
 ·intro again i s hi
  unfold S_spec_TreeKeys_3
  simp only [Bool.cond_eq_ite, decide_eq_true_eq, if_neg hi]
theorem impl_MergeSets_eq (a b : List E_Key) (h : a.length + b.length ≤ 1073741824) : F_impl_MergeSets (a, b) = some (mergeK a b) := by
 unfold F_impl_MergeSets F_impl_copyKeys L_impl_MergeSets_3
 simp only [List.length_nil, Nat.zero_add, List.nil_append]
 rw [if_pos (by omega), Option.bind_some]
 refine fold_loop (step := S_impl_MergeSets_3 _) (fun (i : Int) (s : List E_Key) => (b, (b.length : Int), i, s)) (fun s => some s) z_Key setPut b (by omega) (fun i s => s.length ≤ a.length + i) ?_ ?_ a (by simp)
 ·intro again i s h0 h1 hI
  have hw : Go.IntKind.wrap .i64 (i + 1) = i + 1 := w64 (by omega) (by omega)
  have hs := setPut_len s (b.getD i.toNat z_Key)
  have e := impl_SetPut_eq s (rd_Key b i).1 (rd_Key b i).2.1 (rd_Key b i).2.2.1 (rd_Key b i).2.2.2.1 (rd_Key b i).2.2.2.2 (by omega)
  refine ⟨?_, by omega⟩
  unfold S_impl_MergeSets_3
  simp only [Bool.cond_eq_ite, decide_eq_true_eq, h0, h1, if_true, hw, e, Option.bind_some]
  rfl
 ·intro again i s hi
  unfold S_impl_MergeSets_3
  simp only [Bool.cond_eq_ite, decide_eq_true_eq, if_neg hi]
theorem impl_Drop_eq (l : List E_Key) (h : l.length ≤ 1073741824) : F_impl_Drop l = some (dropK l) := by
 unfold F_impl_Drop L_impl_Drop_3
 refine fold_loop (step := S_impl_Drop_3 _) (fun (i : Int) (s : List E_Key) => (l, (l.length : Int), i, s)) (fun s => some s) z_Key dropOne l (by omega) (fun i s => s.length ≤ i) ?_ ?_ [] (by simp)
 ·intro again i s h0 h1 hI
  have hw : Go.IntKind.wrap .i64 (i + 1) = i + 1 := w64 (by omega) (by omega)
  have hs := dropOne_len s (l.getD i.toNat z_Key)
  refine ⟨?_, by omega⟩
  have c1 : (s.length + 1) * 40 < 140737488355328 := by omega
  clear hs
  unfold S_impl_Drop_3 dropOne
  obtain ⟨⟨x1, x2, x3, x4, x5⟩, hx⟩ : ∃ x, rd_Key l i = x := ⟨_, rfl⟩
  have hx' : l.getD i.toNat z_Key = (x1, x2, x3, x4, x5) := hx
  rw [hx']
  simp only [Bool.cond_eq_ite, decide_eq_true_eq, h0, h1, if_true, hw, hx, List.length_cons, List.length_nil, Nat.zero_add, c1]
  by_cases h3 : x3 = 0
  ·rw [if_neg (by simpa using h3), if_pos h3]
  ·rw [if_pos (by simpa using h3), if_neg h3]
 ·intro again i s hi
  unfold S_impl_Drop_3
  simp only [Bool.cond_eq_ite, decide_eq_true_eq, if_neg hi]
theorem impl_NodeKeys_eq (n : List E_s_Key) (hn : n.length ≤ 1073741824) (h : sumW lenK n ≤ 1048576) : F_impl_NodeKeys n = some (nodeK n) := by
 have hlen := nodeF_len n []
 simp only [List.length_nil] at hlen
 have hD := impl_Drop_eq (n.foldl mergeK []) (by omega)
 unfold F_impl_NodeKeys L_impl_NodeKeys_3
 refine (fold_loop (step := S_impl_NodeKeys_3 _) (fun (i : Int) (s : List E_Key) => (n, (n.length : Int), i, s)) (fun s => Option.bind (F_impl_Drop s) fun r3 => some r3) z_s_Key mergeK n (by omega) (fun i s => (s.length : Int) + sumW lenK (n.drop i) ≤ sumW lenK n) ?_ ?_ [] (by simp)).trans ?_
 ·intro again i s h0 h1 hI
  have hw : Go.IntKind.wrap .i64 (i + 1) = i + 1 := w64 (by omega) (by omega)
  rw [drop_getD z_s_Key n i h0 h1, sumW_cons, show (i + 1).toNat = i.toNat + 1 by omega] at hI
  have hnn := sumW_nonneg lenK_nonneg (n.drop (i.toNat + 1))
  have hm := mergeK_len (n.getD i.toNat z_s_Key) s
  have hk : lenK (n.getD i.toNat z_s_Key) = (List.length (n.getD i.toNat z_s_Key) : Int) := rfl
  have e : F_impl_MergeSets (s, rd_s_Key n i) = some (mergeK s (rd_s_Key n i)) := impl_MergeSets_eq s _ (by show s.length + List.length (n.getD i.toNat z_s_Key) ≤ _; omega)
  refine ⟨?_, by omega⟩
  unfold S_impl_NodeKeys_3
  simp only [Bool.cond_eq_ite, decide_eq_true_eq, h0, h1, if_true, hw, e, Option.bind_some]
  rfl
 ·intro again i s hi
  unfold S_impl_NodeKeys_3
  simp only [Bool.cond_eq_ite, decide_eq_true_eq, if_neg hi]
 ·rw [hD]
  rfl
theorem impl_TreeKeys_eq (q : List Int) (t : List E_Node) (ht : t.length ≤ 1073741824) (hm : ∀ n ∈ t, List.length n ≤ 1073741824) (h : sumW wSets t ≤ 1048576) : F_impl_TreeKeys (q, t) = some (treeK t) := by
 unfold F_impl_TreeKeys L_impl_TreeKeys_3
 refine fold_loop (step := S_impl_TreeKeys_3 _) (fun (i : Int) (s : List E_Key) => (t, (t.length : Int), i, s)) (fun s => some s) z_Node treeOne t (by omega) (fun i s => (s.length : Int) + sumW wSets (t.drop i) ≤ sumW wSets t) ?_ ?_ [] (by simp)
 ·intro again i s h0 h1 hI
  have hw : Go.IntKind.wrap .i64 (i + 1) = i + 1 := w64 (by omega) (by omega)
  rw [drop_getD z_Node t i h0 h1, sumW_cons, show (i + 1).toNat = i.toNat + 1 by omega] at hI
  have hnn := sumW_nonneg wSets_nonneg (t.drop (i.toNat + 1))
  have hge := wSets_ge (t.getD i.toNat z_Node)
  have hk := nodeK_len (t.getD i.toNat z_Node)
  have e : F_impl_NodeKeys (rd_Node t i) = some (nodeK (rd_Node t i)) := impl_NodeKeys_eq _ (hm _ (getD_mem z_Node t i h0 h1)) (by show sumW lenK (t.getD i.toNat z_Node) ≤ _; omega)
  have hT : (treeOne s (t.getD i.toNat z_Node)).length = s.length + (nodeK (t.getD i.toNat z_Node)).length := List.length_append
  have c1 : (s.length + (nodeK (rd_Node t i)).length) * 40 < 140737488355328 := by
   show (s.length + (nodeK (t.getD i.toNat z_Node)).length) * 40 < 140737488355328
   generalize (nodeK (t.getD i.toNat z_Node)).length = m at hk ⊢
   clear hT e
   have : s.length + m ≤ 1048576 := by omega
   omega
  refine ⟨?_, by rw [hT]; omega⟩
  unfold S_impl_TreeKeys_3
  simp only [Bool.cond_eq_ite, decide_eq_true_eq, h0, h1, if_true, hw, e, Option.bind_some, c1]
  rfl
 ·intro again i s hi
  unfold S_impl_TreeKeys_3
  simp only [Bool.cond_eq_ite, decide_eq_true_eq, if_neg hi]
end Go.Proofs.YtmapoakbdgpamaaGreat.Pl
namespace Go.Proofs.YtmapoakbdgpamaaGreat.Pl
open Go.Proofs.YtmapoakbdgpamaaGreat.R Go.Proofs.YtmapoakbdgpamaaGreat.XM
def runE {S A R : Type} (g : Int → S → A → Except (Option R) S) (k : S → Option R) : List A → Int → S → Option R
 | [], _, s => k s
 | a :: l, i, s => match g i s a with
  | .error r => r
  | .ok s' => runE g k l (i + 1) s'
theorem runE_loop {T A S R : Type} {step : (T → Option R) → T → Option R} (mk : Int → S → T) (g : Int → S → A → Except (Option R) S) (k : S → Option R) (da : A) (l : List A) (hl : l.length ≤ 1099511627776) (I : Nat → S → Prop)
  (h : ∀ again i s, 0 ≤ i → i < (l.length : Int) → I i.toNat s → (step again (mk i s) = match g i s (l.getD i.toNat da) with
   | .error r => r
   | .ok s' => again (mk (i + 1) s')) ∧ ∀ s', g i s (l.getD i.toNat da) = .ok s' → I (i.toNat + 1) s')
  (hd : ∀ again i s, ¬ i < (l.length : Int) → step again (mk i s) = k s) (s : S) (hs : I 0 s) : iter step FUEL (mk 0 s) = runE g k l 0 s := by
 have key : ∀ (n : Nat) (i : Int) (s : S), 0 ≤ i → i ≤ l.length → I i.toNat s → l.length - i.toNat < n → iter step n (mk i s) = runE g k (l.drop i.toNat) i s := by
  intro n
  induction n with
  | zero => intro i s _ _ _ hn; omega
  | succ n ih =>
   intro i s h0 h1 hI hn
   rw [iter]
   by_cases hi : i < (l.length : Int)
   ·obtain ⟨e, hI'⟩ := h (iter step n) i s h0 hi hI
    have e1 : (i + 1).toNat = i.toNat + 1 := by omega
    rw [e, drop_getD da l i h0 hi, runE]
    cases hg : g i s (l.getD i.toNat da) with
    | error r => rfl
    | ok s' => exact ih (i + 1) s' (by omega) (by omega) (by rw [e1]; exact hI' s' hg) (by omega)
   ·rw [hd _ i s hi, List.drop_of_length_le (by omega)]
    rfl
 have := key FUEL 0 s (by omega) (by omega) hs (by rw [FUEL_eq]; simp; omega)
 simpa using this
def findI {A : Type} (p : A → Bool) : List A → Int → Int
 | [], _ => -1
 | a :: l, i => if p a then i else findI p l (i + 1)
theorem runE_find {A R : Type} (p : A → Bool) (hit : Int → Option R) (miss : Option R) : ∀ (l : List A) (i : Int), 0 ≤ i → runE (fun i (_ : Unit) a => if p a then .error (hit i) else .ok ()) (fun _ => miss) l i () = if findI p l i < 0 then miss else hit (findI p l i)
 | [], i, _ => by simp [runE, findI]
 | a :: l, i, h => by
  rw [runE, findI]
  by_cases hp : p a = true
  ·rw [if_pos hp, if_pos hp, if_neg (by omega)]
  ·rw [if_neg hp, if_neg hp]
   exact runE_find p hit miss l (i + 1) (by omega)
theorem find_loop {T A R : Type} {step : (T → Option R) → T → Option R} (mk : Int → T) (p : A → Bool) (hit : Int → Option R) (miss : Option R) (da : A) (l : List A) (hl : l.length ≤ 1099511627776)
  (h : ∀ again i, 0 ≤ i → i < (l.length : Int) → step again (mk i) = if p (l.getD i.toNat da) then hit i else again (mk (i + 1)))
  (hd : ∀ again i, ¬ i < (l.length : Int) → step again (mk i) = miss) : iter step FUEL (mk 0) = if findI p l 0 < 0 then miss else hit (findI p l 0) := by
 rw [← runE_find p hit miss l 0 (Int.le_refl _)]
 refine runE_loop (fun i (_ : Unit) => mk i) _ _ da l hl (fun _ _ => True) (fun again i s h0 h1 _ => ⟨?_, fun _ _ => trivial⟩) (fun again i s hi => hd again i hi) () trivial
 rw [h again i h0 h1]
 cases p (l.getD i.toNat da) <;> rfl
theorem findI_spec {A : Type} (p : A → Bool) (da : A) : ∀ (l : List A) (i : Int), 0 ≤ i → findI p l i = -1 ∨ (i ≤ findI p l i ∧ findI p l i < i + l.length ∧ p (l.getD (findI p l i - i).toNat da) = true)
 | [], i, _ => .inl rfl
 | a :: l, i, h => by
  rw [findI]
  by_cases hp : p a = true
  ·rw [if_pos hp]
   refine .inr ⟨Int.le_refl _, by simp only [List.length_cons]; omega, ?_⟩
   simpa using hp
  ·rw [if_neg hp]
   rcases findI_spec p da l (i + 1) (by omega) with e | ⟨e1, e2, e3⟩
   ·exact .inl e
   ·refine .inr ⟨by omega, by simp only [List.length_cons]; omega, ?_⟩
    rw [show (findI p l (i + 1) - i).toNat = (findI p l (i + 1) - (i + 1)).toNat + 1 by omega, List.getD_cons_succ]
    exact e3
def ageAt (l : List E_Age) (id : Int) : Int := findI (fun a : E_Age => a.1 == id) l 0
theorem ageAt_spec (l : List E_Age) (id : Int) : ageAt l id = -1 ∨ (0 ≤ ageAt l id ∧ ageAt l id < l.length ∧ (l.getD (ageAt l id).toNat z_Age).1 = id) := by
 rcases findI_spec (fun a : E_Age => a.1 == id) z_Age l 0 (Int.le_refl _) with h | ⟨h1, h2, h3⟩
 ·exact .inl h
 ·refine .inr ⟨h1, by simpa [ageAt] using h2, ?_⟩
  have := eq_of_beq h3
  simpa [ageAt] using this
theorem spec_AgeAt_eq (l : List E_Age) (id : Int) (hl : l.length ≤ 1073741824) : F_spec_AgeAt (l, id) = some (ageAt l id) := by
 unfold F_spec_AgeAt L_spec_AgeAt_2
 refine (find_loop (step := S_spec_AgeAt_2 _ _) (fun i => (l, id, i)) (fun a : E_Age => a.1 == id) (fun x => some x) (some (-1)) z_Age l (by omega) ?_ ?_).trans ?_
 ·intro again i h0 h1
  have hw : Go.IntKind.wrap .i64 (i + 1) = i + 1 := w64 (by omega) (by omega)
  unfold S_spec_AgeAt_2
  simp only [Bool.cond_eq_ite, decide_eq_true_eq, h0, h1, if_true, hw]
  rfl
 ·intro again i hi
  unfold S_spec_AgeAt_2
  simp only [Bool.cond_eq_ite, decide_eq_true_eq, if_neg hi]
 ·rcases ageAt_spec l id with h | ⟨h1, h2, h3⟩ <;> unfold ageAt at *
  ·rw [h]
   rfl
  ·rw [if_neg (by omega)]
theorem impl_AgeAt_eq (l : List E_Age) (id : Int) (hl : l.length ≤ 1073741824) : F_impl_AgeAt (l, id) = some (ageAt l id) := by
 have key : F_slices_IndexFunc_Age_impl_AgeAt_1 (l, id) = some (ageAt l id, id) := by
  unfold F_slices_IndexFunc_Age_impl_AgeAt_1 L_slices_IndexFunc_Age_impl_AgeAt_1_2
  refine (find_loop (step := S_slices_IndexFunc_Age_impl_AgeAt_1_2 _ _) (fun i => (l, (l.length : Int), i, id)) (fun a : E_Age => a.1 == id) (fun x => some (x, id)) (some (-1, id)) z_Age l (by omega) ?_ ?_).trans ?_
  ·intro again i h0 h1
   have hw : Go.IntKind.wrap .i64 (i + 1) = i + 1 := w64 (by omega) (by omega)
   unfold S_slices_IndexFunc_Age_impl_AgeAt_1_2 F_impl_AgeAt_1
   simp only [Bool.cond_eq_ite, decide_eq_true_eq, h0, h1, if_true, hw, Option.bind_some]
   rfl
  ·intro again i hi
   unfold S_slices_IndexFunc_Age_impl_AgeAt_1_2
   simp only [Bool.cond_eq_ite, decide_eq_true_eq, if_neg hi]
  ·rcases ageAt_spec l id with h | ⟨h1, h2, h3⟩ <;> unfold ageAt at *
   ·rw [h]
    rfl
   ·rw [if_neg (by omega)]
 unfold F_impl_AgeAt
 rw [key]
 rfl
def hasI (l : List Int) (v : Int) : Bool := decide (0 ≤ findI (fun a : Int => a == v) l 0)
def pathI (l : List E_Age) : Nat → Int → List Int
 | 0, _ => []
 | n + 1, at_ => if at_ < 0 then [] else (l.getD at_.toNat z_Age).1 :: pathI l n (ageAt l (l.getD at_.toNat z_Age).2)
def pathOf (l : List E_Age) (id : Int) : List Int := pathI l (l.length + 1) (ageAt l id)
theorem pathI_pos (l : List E_Age) (n : Nat) (i : Int) (h : 0 ≤ i) : pathI l (n + 1) i = (l.getD i.toNat z_Age).1 :: pathI l n (ageAt l (l.getD i.toNat z_Age).2) := by rw [pathI, if_neg (by omega)]
theorem pathI_neg (l : List E_Age) (n : Nat) : pathI l n (-1) = [] := by cases n <;> simp [pathI]
theorem pathI_len (l : List E_Age) : ∀ (n : Nat) (i : Int), (pathI l n i).length ≤ n
 | 0, _ => by simp [pathI]
 | n + 1, i => by
  rw [pathI]
  split
  ·simp
  ·have := pathI_len l n (ageAt l (l.getD i.toNat z_Age).2)
   simp only [List.length_cons]
   omega
end Go.Proofs.YtmapoakbdgpamaaGreat.Pl
namespace Go.Proofs.YtmapoakbdgpamaaGreat.Pl
open Go.Proofs.YtmapoakbdgpamaaGreat.R Go.Proofs.YtmapoakbdgpamaaGreat.XM
def keyOne (blk : Int) (s : List E_Key) (a : E_Key) : List E_Key := if a.1 == blk then s ++ [a] else s
def keysOf (ks : List E_Key) (blk : Int) : List E_Key := ks.foldl (keyOne blk) []
theorem keyOne_len (blk : Int) (s : List E_Key) (a : E_Key) : (keyOne blk s a).length ≤ s.length + 1 := by
 unfold keyOne
 split <;> simp
theorem keysF_len (blk : Int) : ∀ (l s : List E_Key), (l.foldl (keyOne blk) s).length ≤ s.length + l.length
 | [], s => by simp
 | c :: l, s => by
  have h := keysF_len blk l (keyOne blk s c)
  have h2 := keyOne_len blk s c
  simp only [List.foldl_cons, List.length_cons]
  omega
theorem treeF_len : ∀ (t : List E_LNode) (s : List E_Key), ((t.foldl treeOne s).length : Int) ≤ s.length + sumW wSets t
 | [], s => by simp [sumW]
 | n :: t, s => by
  have h := treeF_len t (treeOne s n)
  have h1 := nodeK_len n
  have h2 := wSets_ge n
  have h3 : (treeOne s n).length = s.length + (nodeK n).length := List.length_append
  simp only [List.foldl_cons, sumW_cons]
  omega
theorem treeK_len (t : List E_LNode) : ((treeK t).length : Int) ≤ sumW wSets t := by
 have := treeF_len t []
 simpa [treeK] using this
structure TOk (t : List E_Node) : Prop where
 len : t.length ≤ 1048576
 nodes : ∀ n ∈ t, List.length n ≤ 1073741824
 sum : sumW wSets t ≤ 1048576
theorem TOk.keys {t : List E_Node} (h : TOk t) : (treeK t).length ≤ 1048576 := by
 have h1 := treeK_len t
 have h2 := h.sum
 omega
def seenOne (path : List Int) (s : Bool × E_Key) (a : E_Key) : Bool × E_Key := if hasI path a.2.1 = true ∧ (s.1 = false ∨ s.2.2.1 < a.2.1) then (true, a) else s
def nearest (ks : List E_Key) (path : List Int) : Bool × E_Key := ks.foldl (seenOne path) (false, (0, 0, 0, 0, 0))
def ans (r : Bool × E_Key) : Int × Int × Int × Int × Int × Bool := (r.2.1, r.2.2.1, r.2.2.2.1, r.2.2.2.2.1, r.2.2.2.2.2, r.1)
def seenK (t : List E_Node) (l : List E_Age) (blk id : Int) : Bool × E_Key := nearest (keysOf (treeK t) blk) (pathOf l id)
theorem path_small (l : List E_Age) (id : Int) (hl : l.length ≤ 1048576) : (pathOf l id).length ≤ 1073741824 := by
 have := pathI_len l (l.length + 1) (ageAt l id)
 unfold pathOf
 omega
def seesK (t : List E_Node) (l : List E_Age) (k : E_Key) (id : Int) : Bool := (seenK t l k.1 id).1 && ((seenK t l k.1 id).2.2.1 == k.2.1)
def volSees (t : List E_Node) (l : List E_Age) (k : E_Key) (v : E_Vol) : Bool := decide (v.2.2.1 > k.1) && seesK t l k v.2.1
def anySees (t : List E_Node) (l : List E_Age) (vs : List E_Vol) (k : E_Key) : Bool := decide (0 ≤ findI (volSees t l k) vs 0)
def distOne (t : List E_Node) (l : List E_Age) (vs : List E_Vol) (n : Int) (k : E_Key) : Int := if k.2.2.1 = 1 ∧ anySees t l vs k = true then Go.IntKind.wrap .i64 (n + 1) else n
def distinct (t : List E_Node) (l : List E_Age) (vs : List E_Vol) : Int := (treeK t).foldl (distOne t l vs) 0
end Go.Proofs.YtmapoakbdgpamaaGreat.Pl
namespace Go.Proofs.YtmapoakbdgpamaaGreat.Pl
open Go.Proofs.YtmapoakbdgpamaaGreat.R Go.Proofs.YtmapoakbdgpamaaGreat.XM
theorem szStep (o : Option Int) (n w : Int) (k : Int → Option Int) (h : szOk n w o) : (Option.bind o fun r => bif (decide (r < (0 : Int))) then some (-1 : Int) else k r) = some (-1) ∨ (0 ≤ n - w ∧ (Option.bind o fun r => bif (decide (r < (0 : Int))) then some (-1 : Int) else k r) = k (n - w)) := by
 obtain ⟨r, rfl, hc⟩ := h
 simp only [Option.bind_some, Bool.cond_eq_ite, decide_eq_true_eq]
 rcases hc with hc | ⟨h0, h1⟩
 ·exact .inl (if_pos hc)
 ·subst h1
  exact .inr ⟨h0, if_neg (by omega)⟩
def small (is : List E_i64) (ns : List E_LNode) (ags : List E_LAge) (cs : List E_LCell) (vs : List E_LVol) : Prop :=
 is.length ≤ 1048576 ∧ ns.length ≤ 1048576 ∧ sumW wSets ns ≤ 1048576 ∧ ags.length ≤ 1048576 ∧ cs.length ≤ 1048576 ∧ vs.length ≤ 1048576
theorem szPool_okN (m : Int) (m0 : 0 ≤ m) (m1 : m ≤ 1048576) (is : List E_i64) (ns : List E_LNode) (ags : List E_LAge) (cs : List E_LCell) (vs : List E_LVol) (z : Int) (hi : is.length ≤ maxLen) (hn : ns.length ≤ maxLen) (hnn : ∀ a ∈ ns, List.length a ≤ maxLen ∧ ∀ b ∈ (show List E_s_LKey from a), List.length b ≤ maxLen)
  (ha : ags.length ≤ maxLen) (hc : cs.length ≤ maxLen) (hv : vs.length ≤ maxLen) (hvv : ∀ a ∈ vs, ByteArray.size a.1 ≤ maxLen) : ∃ r, F_laws_szPool (is, ns, ags, cs, vs, z, m) = some r ∧ (r < 0 ∨ small is ns ags cs vs) := by
 have hT : F_laws_szTree (is, ns, m) = some (-1) ∨ ∃ r, F_laws_szTree (is, ns, m) = some r ∧ 0 ≤ r ∧ r ≤ 1048576 ∧ is.length ≤ 1048576 ∧ ns.length ≤ 1048576 ∧ sumW wSets ns ≤ 1048576 := by
  unfold F_laws_szTree
  rcases szStep _ _ _ (fun r1 => Option.bind (F_laws_szNodeS (ns, r1)) fun r2 => bif (decide (r2 < (0 : Int))) then some (-1 : Int) else some r2) (szIntS_ok is hi m m0 m1) with h | ⟨h0, h⟩
  ·exact .inl h
  ·have hw := sumW_nonneg wSets_nonneg ns
   rcases szStep _ _ _ (fun r2 => some r2) (szNodeS_ok ns hn hnn (m - (is.length : Int)) h0 (by omega)) with h' | ⟨h0', h'⟩
   ·exact .inl (h.trans h')
   ·refine .inr ⟨_, h.trans h', h0', by omega, by omega, by omega, by omega⟩
 unfold F_laws_szPool
 rcases hT with hT | ⟨r, hT, r0, r1, i1, n1, n2⟩
 ·rw [hT]
  exact ⟨-1, rfl, .inl (by omega)⟩
 ·simp only [hT, Option.bind_some]
  rw [Bool.cond_eq_ite, if_neg (by simp; omega)]
  rcases szStep _ _ _ (fun r2 => Option.bind (F_laws_szCellS (cs, r2)) fun r3 => bif (decide (r3 < (0 : Int))) then some (-1 : Int) else Option.bind (F_laws_szVolS (vs, r3)) fun r4 => bif (decide (r4 < (0 : Int))) then some (-1 : Int) else some r4) (szAgeS_ok ags ha r r0 r1) with h | ⟨h0, h⟩
  ·exact ⟨-1, h, .inl (by omega)⟩
  ·rcases szStep _ _ _ (fun r3 => Option.bind (F_laws_szVolS (vs, r3)) fun r4 => bif (decide (r4 < (0 : Int))) then some (-1 : Int) else some r4) (szCellS_ok cs hc (r - (ags.length : Nat)) h0 (by omega)) with h' | ⟨h0', h'⟩
   ·exact ⟨-1, h.trans h', .inl (by omega)⟩
   ·have hw := sumW_nonneg (w := fun a : E_LVol => (ByteArray.size a.1 : Int)) (fun a => Int.natCast_nonneg _) vs
    rcases szStep _ _ _ (fun r4 => some r4) (szVolS_ok vs hv hvv (r - (ags.length : Nat) - (cs.length : Nat)) h0' (by omega)) with h'' | ⟨h0'', h''⟩
    ·exact ⟨-1, h.trans (h'.trans h''), .inl (by omega)⟩
    ·exact ⟨_, h.trans (h'.trans h''), .inr ⟨i1, n1, n2, by omega, by omega, by omega⟩⟩
theorem szPool_ok (is : List E_i64) (ns : List E_LNode) (ags : List E_LAge) (cs : List E_LCell) (vs : List E_LVol) (z : Int) (hi : is.length ≤ maxLen) (hn : ns.length ≤ maxLen) (hnn : ∀ a ∈ ns, List.length a ≤ maxLen ∧ ∀ b ∈ (show List E_s_LKey from a), List.length b ≤ maxLen)
  (ha : ags.length ≤ maxLen) (hc : cs.length ≤ maxLen) (hv : vs.length ≤ maxLen) (hvv : ∀ a ∈ vs, ByteArray.size a.1 ≤ maxLen) : ∃ r, F_laws_szPool (is, ns, ags, cs, vs, z, 1048576) = some r ∧ (r < 0 ∨ small is ns ags cs vs) := szPool_okN 1048576 (by omega) (by omega) is ns ags cs vs z hi hn hnn ha hc hv hvv
theorem node_small {ns : List E_LNode} (h : sumW wSets ns ≤ 1048576) {n : List E_s_LKey} (hn : n ∈ ns) : n.length ≤ 1048576 ∧ ∀ s ∈ n, List.length s ≤ 1048576 := by
 have h1 := (sumW_mem wSets_nonneg hn).1
 have h2 := sumW_nonneg lenK_nonneg n
 have h3 : wSets n = (List.length n : Int) + sumW lenK n := rfl
 refine ⟨by omega, fun s hs => ?_⟩
 have h4 := (sumW_mem lenK_nonneg hs).1
 have h5 : lenK s = (List.length s : Int) := rfl
 omega
theorem toPool_eq (is : List E_i64) (ns : List E_LNode) (ags : List E_LAge) (cs : List E_LCell) (vs : List E_LVol) (z : Int) (h : small is ns ags cs vs) : F_laws_toPool (is, ns, ags, cs, vs, z) = some (is, ns, ags, cs, vs, z) := by
 obtain ⟨h1, h2, h3, h4, h5, h6⟩ := h
 have hN : F_laws_toNodeS ns = some ns := toNodeS_eq ns h2 fun a ha => by
  have hs := node_small h3 ha
  unfold F_laws_toNode
  rw [toKeySS_eq a hs.1 fun b hb => toKeyS_eq b (hs.2 b hb)]
  rfl
 unfold F_laws_toPool F_laws_toTree
 simp only [toIntS_eq is h1, hN, toAgeS_eq ags h4, toCellS_eq cs h5, toVolS_eq vs h6, Option.bind_some]
theorem eqPool_refl (is : List E_i64) (ns : List E_LNode) (ags : List E_LAge) (cs : List E_LCell) (vs : List E_LVol) (z : Int) (h : small is ns ags cs vs) : F_laws_eqPool (is, ns, ags, cs, vs, z, is, ns, ags, cs, vs, z) = some true := by
 obtain ⟨h1, h2, h3, h4, h5, h6⟩ := h
 have hN : F_laws_eqNodeS (ns, ns) = some true := eqNodeS_refl ns h2 fun a ha => by
  have hs := node_small h3 ha
  unfold F_laws_eqNode
  rw [eqKeySS_refl a hs.1 fun b hb => eqKeyS_refl b (hs.2 b hb)]
  rfl
 unfold F_laws_eqPool F_laws_eqTree
 simp only [eqIntS_refl is h1, hN, eqAgeS_refl ags h4, eqCellS_refl cs h5, eqVolS_refl vs h6, Option.bind_some, Bool.not_true, cond_false, bne_self_eq_false]
end Go.Proofs.YtmapoakbdgpamaaGreat.Pl
namespace Go.Proofs.YtmapoakbdgpamaaGreat.Pl
open Go.Proofs.YtmapoakbdgpamaaGreat.R Go.Proofs.YtmapoakbdgpamaaGreat.XM
def anyE {A : Type} (p : Int → A → Bool) : List A → Int → Bool
 | [], _ => false
 | a :: l, i => p i a || anyE p l (i + 1)
theorem anyE_or {A : Type} (p q : Int → A → Bool) : ∀ (l : List A) (i : Int), anyE (fun i a => p i a || q i a) l i = (anyE p l i || anyE q l i)
 | [], _ => rfl
 | a :: l, i => by
  rw [anyE, anyE, anyE, anyE_or p q l (i + 1)]
  cases p i a <;> cases q i a <;> cases anyE p l (i + 1) <;> rfl
theorem anyE_congr {A : Type} {p q : Int → A → Bool} : ∀ (l : List A) (i : Int), (∀ j a, i ≤ j → p j a = q j a) → anyE p l i = anyE q l i
 | [], _, _ => rfl
 | a :: l, i, h => by rw [anyE, anyE, h i a (Int.le_refl _), anyE_congr l (i + 1) (fun j a hj => h j a (by omega))]
theorem anyE_get {A : Type} (da : A) {p : Int → A → Bool} : ∀ (l : List A) (i : Int), anyE p l i = false → ∀ j : Nat, j < l.length → p (i + j) (l.getD j da) = false
 | a :: l, i, h, 0, _ => by
  rw [anyE, Bool.or_eq_false_iff] at h
  simpa using h.1
 | a :: l, i, h, j + 1, hj => by
  rw [anyE, Bool.or_eq_false_iff] at h
  have := anyE_get da l (i + 1) h.2 j (by simpa using hj)
  rw [show i + ((j + 1 : Nat) : Int) = i + 1 + (j : Int) by omega, List.getD_cons_succ]
  exact this
theorem runE_any {A S R : Type} (p : Int → A → Bool) (f : S → A → S) (r : Option R) (k : S → Option R) : ∀ (l : List A) (i : Int) (s : S), runE (fun i s a => if p i a = true then .error r else .ok (f s a)) k l i s = if anyE p l i = true then r else k (l.foldl f s)
 | [], _, _ => by simp [runE, anyE]
 | a :: l, i, s => by
  rw [runE, anyE]
  by_cases h : p i a = true
  ·simp [h]
  ·have hf : p i a = false := by simpa using h
   simp only [hf, Bool.false_eq_true, if_false, Bool.false_or, List.foldl_cons]
   exact runE_any p f r k l (i + 1) (f s a)
theorem runE_from {T A S R : Type} {step : (T → Option R) → T → Option R} (mk : Int → S → T) (g : Int → S → A → Except (Option R) S) (k : S → Option R) (da : A) (l : List A) (hl : l.length ≤ 1099511627776) (I : Nat → S → Prop)
  (h : ∀ again i s, 0 ≤ i → i < (l.length : Int) → I i.toNat s → (step again (mk i s) = match g i s (l.getD i.toNat da) with
   | .error r => r
   | .ok s' => again (mk (i + 1) s')) ∧ ∀ s', g i s (l.getD i.toNat da) = .ok s' → I (i.toNat + 1) s')
  (hd : ∀ again i s, ¬ i < (l.length : Int) → step again (mk i s) = k s) (i0 : Int) (h00 : 0 ≤ i0) (s : S) (hs : I i0.toNat s) : iter step FUEL (mk i0 s) = runE g k (l.drop i0.toNat) i0 s := by
 have key : ∀ (n : Nat) (i : Int) (s : S), 0 ≤ i → I i.toNat s → l.length - i.toNat < n → iter step n (mk i s) = runE g k (l.drop i.toNat) i s := by
  intro n
  induction n with
  | zero => intro i s _ _ hn; omega
  | succ n ih =>
   intro i s h0 hI hn
   rw [iter]
   by_cases hi : i < (l.length : Int)
   ·obtain ⟨e, hI'⟩ := h (iter step n) i s h0 hi hI
    have e1 : (i + 1).toNat = i.toNat + 1 := by omega
    rw [e, drop_getD da l i h0 hi, runE]
    cases hg : g i s (l.getD i.toNat da) with
    | error r => rfl
    | ok s' => exact ih (i + 1) s' (by omega) (by rw [e1]; exact hI' s' hg) (by omega)
   ·rw [hd _ i s hi, List.drop_of_length_le (by omega)]
    rfl
 exact key FUEL i0 s h00 hs (by rw [FUEL_eq]; omega)
theorem any_loop {T A S R : Type} {step : (T → Option R) → T → Option R} (mk : Int → S → T) (p : Int → A → Bool) (f : S → A → S) (r : Option R) (k : S → Option R) (da : A) (l : List A) (hl : l.length ≤ 1099511627776)
  (h : ∀ again i s, 0 ≤ i → i < (l.length : Int) → step again (mk i s) = if p i (l.getD i.toNat da) = true then r else again (mk (i + 1) (f s (l.getD i.toNat da))))
  (hd : ∀ again i s, ¬ i < (l.length : Int) → step again (mk i s) = k s) (s : S) : iter step FUEL (mk 0 s) = if anyE p l 0 = true then r else k (l.foldl f s) := by
 rw [← runE_any p f r k l 0 s]
 have := runE_from (step := step) mk (fun i s a => if p i a = true then .error r else .ok (f s a)) k da l hl (fun _ _ => True) (fun again i s h0 h1 _ => ⟨?_, fun _ _ => trivial⟩) hd 0 (Int.le_refl _) s trivial
 ·simpa using this
 ·rw [h again i s h0 h1]
  by_cases hp : p i (l.getD i.toNat da) = true
  ·rw [if_pos hp, if_pos hp]
  ·rw [if_neg hp, if_neg hp]
theorem any_loop0 {T A R : Type} {step : (T → Option R) → T → Option R} (mk : Int → T) (p : Int → A → Bool) (r k : Option R) (da : A) (l : List A) (hl : l.length ≤ 1099511627776)
  (h : ∀ again i, 0 ≤ i → i < (l.length : Int) → step again (mk i) = if p i (l.getD i.toNat da) = true then r else again (mk (i + 1)))
  (hd : ∀ again i, ¬ i < (l.length : Int) → step again (mk i) = k) : iter step FUEL (mk 0) = if anyE p l 0 = true then r else k :=
 any_loop (fun i (_ : Unit) => mk i) p (fun _ _ => ()) r (fun _ => k) da l hl (fun again i _ h0 h1 => h again i h0 h1) (fun again i _ hi => hd again i hi) ()
end Go.Proofs.YtmapoakbdgpamaaGreat.Pl
namespace Go.Proofs.YtmapoakbdgpamaaGreat.Pl
open Go.Proofs.YtmapoakbdgpamaaGreat.R Go.Proofs.YtmapoakbdgpamaaGreat.XM
def keyOkK (k : E_Key) : Bool := inR k.1 0 15 && (inR k.2.1 1 60 && (inR k.2.2.1 0 2 && (if k.2.2.1 = 1 then inR k.2.2.2.1 0 23 && inR k.2.2.2.2 0 999 else (k.2.2.2.1 == 0) && (k.2.2.2.2 == 0))))
theorem spec_KeyOk_eq (a b c d e : Int) : F_spec_KeyOk (a, b, c, d, e) = some (keyOkK (a, b, c, d, e)) := by
 unfold F_spec_KeyOk keyOkK
 simp only [l1In_eq, Option.bind_some]
 by_cases hc : c = 1
 ·subst hc
  cases inR a 0 15 <;> cases inR b 1 60 <;> cases inR 1 0 2 <;> cases inR d 0 23 <;> rfl
 ·have hc' : (c == 1) = false := by simpa using hc
  rw [hc', if_neg hc]
  cases inR a 0 15 <;> cases inR b 1 60 <;> cases inR c 0 2 <;> cases (d == 0) <;> rfl
theorem impl_KeyOk_eq (a b c d e : Int) : F_impl_KeyOk (a, b, c, d, e) = some (keyOkK (a, b, c, d, e)) := by
 unfold F_impl_KeyOk keyOkK
 simp only [within_eq, Option.bind_some]
 by_cases hc : c = 1
 ·subst hc
  cases inR a 0 15 <;> cases inR b 1 60 <;> cases inR 1 0 2 <;> cases inR d 0 23 <;> rfl
 ·have hc' : (c != 1) = true := by simpa using hc
  rw [hc', if_neg hc]
  cases inR a 0 15 <;> cases inR b 1 60 <;> cases inR c 0 2 <;> cases (d == 0) <;> rfl
def risesAt (l : List E_Key) (i : Int) (a : E_Key) : Bool := decide (0 < i) && !lessK (l.getD (i - 1).toNat z_Key) a
def setOkK (l : List E_Key) : Bool := !anyE (fun _ a => !keyOkK a) l 0 && (!anyE (risesAt l) l 0 && decide ((l.length : Int) ≤ 60))
theorem spec_Rises_eq (l : List E_Key) (hl : l.length ≤ 1073741824) : F_spec_l4Rises l = some (!anyE (risesAt l) l 0) := by
 unfold F_spec_l4Rises L_spec_l4Rises_2
 have key := runE_from (step := S_spec_l4Rises_2 (fun x2 => some x2) (fun x3 => some true)) (fun i (_ : Unit) => (l, i)) (fun i (s : Unit) a => if (decide (0 < i) && !lessK (l.getD (i - 1).toNat z_Key) a) = true ∨ i = 0 then .error (some false) else .ok s) (fun _ => some true) z_Key l (by omega) (fun i _ => 1 ≤ i) ?_ ?_ 1 (by omega) () (by decide)
 ·rw [key]
  have h1 : anyE (risesAt l) l 0 = anyE (risesAt l) (l.drop 1) 1 := by
   cases l with
   | nil => rfl
   | cons a l => simp [anyE, risesAt]
  rw [h1]
  have h2 := runE_any (fun i a => decide ((decide (0 < i) && !lessK (l.getD (i - 1).toNat z_Key) a) = true ∨ i = 0)) (fun (s : Unit) _ => s) (some false) (fun _ => some true) (l.drop 1) 1 ()
  simp only [decide_eq_true_eq] at h2
  rw [show (1 : Int).toNat = 1 from rfl, h2]
  have h3 : anyE (fun i a => decide ((decide (0 < i) && !lessK (l.getD (i - 1).toNat z_Key) a) = true ∨ i = 0)) (l.drop 1) 1 = anyE (risesAt l) (l.drop 1) 1 := anyE_congr _ _ fun j a hj => by
   unfold risesAt
   have : ¬ j = 0 := by omega
   simp [this]
  rw [h3]
  cases anyE (risesAt l) (l.drop 1) 1 <;> rfl
 ·intro again i s h0 h1 hI
  have hi : 1 ≤ i := by
   have : (1 : Nat) ≤ i.toNat := hI
   omega
  have hw : Go.IntKind.wrap .i64 (i + 1) = i + 1 := w64 (by omega) (by omega)
  have hm : Go.IntKind.wrap .i64 (i - 1) = i - 1 := w64 (by omega) (by omega)
  refine ⟨?_, fun _ _ => by omega⟩
  unfold S_spec_l4Rises_2
  obtain ⟨⟨x1, x2, x3, x4, x5⟩, hx⟩ : ∃ x, rd_Key l i = x := ⟨_, rfl⟩
  have hx' : l.getD i.toNat z_Key = (x1, x2, x3, x4, x5) := hx
  obtain ⟨⟨y1, y2, y3, y4, y5⟩, hy⟩ : ∃ y, rd_Key l (i - 1) = y := ⟨_, rfl⟩
  have hy' : l.getD (i - 1).toNat z_Key = (y1, y2, y3, y4, y5) := hy
  rw [hx', hy']
  have h3 : 0 ≤ i - 1 := by omega
  have h4 : i - 1 < (l.length : Int) := by omega
  have h5 : 0 < i := by omega
  have h6 : ¬ i = 0 := by omega
  simp only [Bool.cond_eq_ite, decide_eq_true_eq, h0, h1, if_true, hw, hm, hx, hy, h3, h4, h5, h6, spec_LessKey_eq, Option.bind_some, decide_true, Bool.true_and, or_false]
  cases lessK (y1, y2, y3, y4, y5) (x1, x2, x3, x4, x5) <;> rfl
 ·intro again i s hi
  unfold S_spec_l4Rises_2
  simp only [Bool.cond_eq_ite, decide_eq_true_eq, if_neg hi]
theorem spec_SetOk_eq (l : List E_Key) (hl : l.length ≤ 1073741824) : F_spec_SetOk l = some (setOkK l) := by
 unfold F_spec_SetOk L_spec_SetOk_2 setOkK
 refine (any_loop0 (step := S_spec_SetOk_2 _ _) (fun i => (l, i)) (fun _ a => !keyOkK a) (some false) (some (!anyE (risesAt l) l 0 && decide ((l.length : Int) ≤ 60))) z_Key l (by omega) ?_ ?_).trans ?_
 ·intro again i h0 h1
  have hw : Go.IntKind.wrap .i64 (i + 1) = i + 1 := w64 (by omega) (by omega)
  unfold S_spec_SetOk_2
  obtain ⟨⟨x1, x2, x3, x4, x5⟩, hx⟩ : ∃ x, rd_Key l i = x := ⟨_, rfl⟩
  have hx' : l.getD i.toNat z_Key = (x1, x2, x3, x4, x5) := hx
  rw [hx']
  simp only [Bool.cond_eq_ite, decide_eq_true_eq, h0, h1, if_true, hw, hx, spec_KeyOk_eq, Option.bind_some]
 ·intro again i hi
  unfold S_spec_SetOk_2
  simp only [Bool.cond_eq_ite, decide_eq_true_eq, if_neg hi, spec_Rises_eq l hl, Option.bind_some]
  cases anyE (risesAt l) l 0 <;> rfl
 ·cases anyE (fun _ a => !keyOkK a) l 0 <;> rfl
theorem impl_SetOk_eq (l : List E_Key) (hl : l.length ≤ 1073741824) : F_impl_SetOk l = some (setOkK l) := by
 unfold F_impl_SetOk L_impl_SetOk_2 setOkK
 refine (any_loop0 (step := S_impl_SetOk_2 _ _) (fun i => (l, l, (l.length : Int), i)) (fun i a => !keyOkK a || risesAt l i a) (some false) (some (decide ((l.length : Int) ≤ 60))) z_Key l (by omega) ?_ ?_).trans ?_
 ·intro again i h0 h1
  have hw : Go.IntKind.wrap .i64 (i + 1) = i + 1 := w64 (by omega) (by omega)
  have hm : Go.IntKind.wrap .i64 (i - 1) = i - 1 := w64 (by omega) (by omega)
  unfold S_impl_SetOk_2 risesAt
  obtain ⟨⟨x1, x2, x3, x4, x5⟩, hx⟩ : ∃ x, rd_Key l i = x := ⟨_, rfl⟩
  have hx' : l.getD i.toNat z_Key = (x1, x2, x3, x4, x5) := hx
  obtain ⟨⟨y1, y2, y3, y4, y5⟩, hy⟩ : ∃ y, rd_Key l (i - 1) = y := ⟨_, rfl⟩
  have hy' : l.getD (i - 1).toNat z_Key = (y1, y2, y3, y4, y5) := hy
  rw [hx', hy']
  simp only [Bool.cond_eq_ite, decide_eq_true_eq, h0, h1, if_true, hw, hm, hx, hy, impl_KeyOk_eq, impl_LessKey_eq, Option.bind_some]
  cases keyOkK (x1, x2, x3, x4, x5)
  ·rfl
  ·by_cases h5 : 0 < i
   ·have h3 : 0 ≤ i - 1 := by omega
    have h4 : i - 1 < (l.length : Int) := by omega
    simp only [gt_iff_lt, h5, h3, h4, if_true, decide_true]
    cases lessK (y1, y2, y3, y4, y5) (x1, x2, x3, x4, x5) <;> rfl
   ·simp [h5]
 ·intro again i hi
  unfold S_impl_SetOk_2
  simp only [Bool.cond_eq_ite, decide_eq_true_eq, if_neg hi]
 ·rw [anyE_or]
  cases anyE (fun _ a => !keyOkK a) l 0 <;> cases anyE (risesAt l) l 0 <;> rfl
def badSet (_ : Int) (a : E_s_Key) : Bool := !setOkK a || ((List.length a : Int) == 0)
def cntOne (s : Int) (a : E_s_Key) : Int := Go.IntKind.wrap .i64 (s + (List.length a : Int))
def nodeOkK (n : List E_s_Key) : Bool := !anyE badSet n 0 && (decide ((n.length : Int) ≤ 3) && decide (n.foldl cntOne 0 ≤ 8))
theorem spec_Count_eq (n : List E_s_Key) (hn : n.length ≤ 1073741824) : F_spec_l5Count n = some (n.foldl cntOne 0) := by
 unfold F_spec_l5Count L_spec_l5Count_3
 refine fold_loop (step := S_spec_l5Count_3 _) (fun (i s : Int) => (s, i, n)) (fun s => some s) z_s_Key cntOne n (by omega) (fun _ _ => True) ?_ ?_ 0 trivial
 ·intro again i s h0 h1 _
  have hw : Go.IntKind.wrap .i64 (i + 1) = i + 1 := w64 (by omega) (by omega)
  refine ⟨?_, trivial⟩
  unfold S_spec_l5Count_3
  simp only [Bool.cond_eq_ite, decide_eq_true_eq, h0, h1, if_true, hw]
  rfl
 ·intro again i s hi
  unfold S_spec_l5Count_3
  simp only [Bool.cond_eq_ite, decide_eq_true_eq, if_neg hi]
theorem spec_NodeOk_eq (n : List E_s_Key) (hn : n.length ≤ 1073741824) (hm : ∀ s ∈ n, List.length s ≤ 1073741824) : F_spec_NodeOk n = some (nodeOkK n) := by
 unfold F_spec_NodeOk L_spec_NodeOk_2 nodeOkK
 refine (any_loop0 (step := S_spec_NodeOk_2 _ _) (fun i => (i, n)) badSet (some false) (some (decide ((n.length : Int) ≤ 3) && decide (n.foldl cntOne 0 ≤ 8))) z_s_Key n (by omega) ?_ ?_).trans ?_
 ·intro again i h0 h1
  have hw : Go.IntKind.wrap .i64 (i + 1) = i + 1 := w64 (by omega) (by omega)
  have e := spec_SetOk_eq (rd_s_Key n i) (hm _ (getD_mem z_s_Key n i h0 h1))
  unfold S_spec_NodeOk_2 badSet
  have hx : n.getD i.toNat z_s_Key = rd_s_Key n i := rfl
  rw [hx]
  simp only [Bool.cond_eq_ite, decide_eq_true_eq, h0, h1, if_true, hw, e, Option.bind_some]
  cases setOkK (rd_s_Key n i)
  ·rfl
  ·rfl
 ·intro again i hi
  unfold S_spec_NodeOk_2
  simp only [Bool.cond_eq_ite, decide_eq_true_eq, if_neg hi, spec_Count_eq n hn, Option.bind_some]
  by_cases h3 : (n.length : Int) ≤ 3 <;> simp [h3]
 ·cases anyE badSet n 0 <;> rfl
theorem impl_NodeOk_eq (n : List E_s_Key) (hn : n.length ≤ 1073741824) (hm : ∀ s ∈ n, List.length s ≤ 1073741824) : F_impl_NodeOk n = some (nodeOkK n) := by
 unfold F_impl_NodeOk L_impl_NodeOk_3 nodeOkK
 refine (any_loop (step := S_impl_NodeOk_3 _ _) (fun (i s : Int) => (s, n, (n.length : Int), i, n)) badSet cntOne (some false) (fun s => some (decide ((n.length : Int) ≤ 3) && decide (s ≤ 8))) z_s_Key n (by omega) ?_ ?_ 0).trans ?_
 ·intro again i s h0 h1
  have hw : Go.IntKind.wrap .i64 (i + 1) = i + 1 := w64 (by omega) (by omega)
  have e := impl_SetOk_eq (rd_s_Key n i) (hm _ (getD_mem z_s_Key n i h0 h1))
  unfold S_impl_NodeOk_3 badSet cntOne
  have hx : n.getD i.toNat z_s_Key = rd_s_Key n i := rfl
  rw [hx]
  simp only [Bool.cond_eq_ite, decide_eq_true_eq, h0, h1, if_true, hw, e, Option.bind_some]
  cases setOkK (rd_s_Key n i)
  ·rfl
  ·rfl
 ·intro again i s hi
  unfold S_impl_NodeOk_3
  simp only [Bool.cond_eq_ite, decide_eq_true_eq, if_neg hi]
  by_cases h3 : (n.length : Int) ≤ 3 <;> simp [h3]
 ·cases anyE badSet n 0 <;> rfl
end Go.Proofs.YtmapoakbdgpamaaGreat.Pl
namespace Go.Proofs.YtmapoakbdgpamaaGreat.Pl
open Go.Proofs.YtmapoakbdgpamaaGreat.R Go.Proofs.YtmapoakbdgpamaaGreat.XM
def spotK (a : E_Key) : Int := Go.IntKind.wrap .i64 (Go.IntKind.wrap .i64 ((64 : Int) * a.1) + a.2.1)
def outB (q : List Int) (i : Int) (_ : Int) (a : E_Key) : Bool := decide (spotK a < q.getD i.toNat 0) || (decide (i + 1 < (q.length : Int)) && decide (spotK a ≥ q.getD (i + 1).toNat 0))
theorem TOk.node {t : List E_Node} (h : TOk t) {n : List E_s_Key} (hn : n ∈ t) : n.length ≤ 1048576 ∧ ∀ s ∈ n, List.length s ≤ 1048576 := node_small h.sum hn
theorem TOk.sumK {t : List E_Node} (h : TOk t) {n : List E_s_Key} (hn : n ∈ t) : sumW lenK n ≤ 1048576 := by
 have h1 := (sumW_mem wSets_nonneg hn).1
 have h2 := wSets_ge n
 have h3 := h.sum
 omega
theorem spec_inner {R : Type} (k0 : (Int × Bool × Int × List E_i64 × List E_Node × List E_s_Key) → Option R) (k1 : (Int × Int × List E_i64 × List E_Node × List E_s_Key) → Option R) (i k : Int) (q : List Int) (t : List E_Node) (n : List E_s_Key) (hk0 : 0 ≤ k) (hk : k < (n.length : Int)) (hi0 : 0 ≤ i) (hi : i < (q.length : Int)) (hq : q.length ≤ 1048576) (hs : List.length (rd_s_Key n k) ≤ 1048576) :
  L_spec_l6Node_8 k0 k1 (i, k, 0, q, t, n) = if anyE (outB q i) (rd_s_Key n k) 0 = true then k0 (i, false, k, q, t, n) else k1 (i, k, q, t, n) := by
 unfold L_spec_l6Node_8
 refine any_loop0 (step := S_spec_l6Node_8 k0 k1) (fun j => (i, k, j, q, t, n)) (outB q i) _ _ z_Key (rd_s_Key n k) (by omega) ?_ ?_
 ·intro again j h0 h1
  have hw : Go.IntKind.wrap .i64 (j + 1) = j + 1 := w64 (by omega) (by omega)
  have hwi : Go.IntKind.wrap .i64 (i + 1) = i + 1 := w64 (by omega) (by omega)
  unfold S_spec_l6Node_8 outB F_spec_l6Spot F_spec_SpotOf spotK
  obtain ⟨⟨x1, x2, x3, x4, x5⟩, hx⟩ : ∃ x, rd_Key (rd_s_Key n k) j = x := ⟨_, rfl⟩
  have hx' : (rd_s_Key n k).getD j.toNat z_Key = (x1, x2, x3, x4, x5) := hx
  have e1 : q.getD i.toNat 0 = rd_i64 q i := rfl
  have e2 : q.getD (i + 1).toNat 0 = rd_i64 q (i + 1) := rfl
  rw [hx', e1, e2]
  have hi1 : 0 ≤ i + 1 := by omega
  simp only [Bool.cond_eq_ite, decide_eq_true_eq, h0, h1, hk0, hk, hi0, hi, hi1, if_true, hw, hwi, hx, Option.bind_some]
  by_cases h2 : Go.IntKind.wrap .i64 (Go.IntKind.wrap .i64 ((64 : Int) * x1) + x2) < rd_i64 q i
  ·simp [h2]
  ·by_cases h3 : i + 1 < (q.length : Int)
   ·simp [h2, h3]
   ·simp [h2, h3]
 ·intro again j hj
  unfold S_spec_l6Node_8
  simp only [Bool.cond_eq_ite, decide_eq_true_eq, hk0, hk, if_true, if_neg hj]
def outN (q : List Int) (i : Int) (_ : Int) (s : E_s_Key) : Bool := anyE (outB q i) s 0
def emptyN (n : E_Node) : Bool := ((nodeK n).length : Int) == 0
def nodeB (q : List Int) (i : Int) (n : E_Node) : Bool := nodeOkK n && (!(decide (0 < i) && emptyN n) && !anyE (outN q i) n 0)
theorem spec_l6Node_eq (q : List Int) (t : List E_Node) (i : Int) (ht : TOk t) (hi0 : 0 ≤ i) (hi : i < (t.length : Int)) (hq : q.length = t.length) : F_spec_l6Node (q, t, i) = some (nodeB q i (rd_Node t i)) := by
 have hmem : rd_Node t i ∈ t := getD_mem z_Node t i hi0 hi
 obtain ⟨hn, hs⟩ := ht.node hmem
 have hlen := ht.len
 have hq1 : i < (q.length : Int) := by omega
 have hq2 : q.length ≤ 1048576 := by omega
 have e1 := spec_NodeOk_eq (rd_Node t i) (by omega) (fun s hh => by have := hs s hh; omega)
 have e2 : F_spec_NodeKeys (rd_Node t i) = some (nodeK (rd_Node t i)) := spec_NodeKeys_eq _ (by omega) (ht.sumK hmem)
 unfold F_spec_l6Node nodeB emptyN
 simp only [hi0, hi, if_true, e1, Option.bind_some]
 generalize rd_Node t i = n at *
 cases nodeOkK n
 ·rfl
 ·have key : L_spec_l6Node_5 (fun x10 => some x10) (fun x11 => some true) (i, 0, q, t, n) = some (!anyE (outN q i) n 0) := by
   unfold L_spec_l6Node_5
   refine (any_loop0 (step := S_spec_l6Node_5 _ _) (fun k => (i, k, q, t, n)) (outN q i) (some false) (some true) z_s_Key n (by omega) ?_ ?_).trans ?_
   ·intro again k h0 h1
    have hw : Go.IntKind.wrap .i64 (k + 1) = k + 1 := w64 (by omega) (by omega)
    have hsk : List.length (rd_s_Key n k) ≤ 1048576 := hs _ (getD_mem z_s_Key n k h0 h1)
    unfold S_spec_l6Node_5 outN
    have hx : n.getD k.toNat z_s_Key = rd_s_Key n k := rfl
    rw [hx]
    simp only [Bool.cond_eq_ite, decide_eq_true_eq, h1, if_true, spec_inner _ _ i k q t n h0 h1 hi0 hq1 hq2 hsk, hw]
   ·intro again k hk
    unfold S_spec_l6Node_5
    simp only [Bool.cond_eq_ite, decide_eq_true_eq, if_neg hk]
   ·cases anyE (outN q i) n 0 <;> rfl
  simp only [key, e2, Option.bind_some, Bool.not_true, cond_false, gt_iff_lt]
  by_cases h0 : 0 < i
  ·simp only [h0, decide_true, cond_true, Bool.true_and]
   cases (((nodeK n).length : Int) == 0) <;> rfl
  ·simp only [h0, decide_false, cond_false, Bool.false_and]
   rfl
theorem impl_inner {R : Type} (k0 : (Int × Bool × List E_s_Key × Int × Int × List E_i64 × List E_Node) → Option R) (k1 : (Int × List E_s_Key × Int × Int × List E_i64 × List E_Node) → Option R) (i k m : Int) (q : List Int) (t : List E_Node) (n : List E_s_Key) (s : List E_Key) (hi0 : 0 ≤ i) (hi : i < (q.length : Int)) (hq : q.length ≤ 1048576) (hs : s.length ≤ 1048576) :
  L_impl_inBounds_5 k0 k1 (i, n, m, k, s, (s.length : Int), 0, q, t) = if anyE (outB q i) s 0 = true then k0 (i, false, n, m, k, q, t) else k1 (i, n, m, k, q, t) := by
 unfold L_impl_inBounds_5
 refine any_loop0 (step := S_impl_inBounds_5 k0 k1) (fun j => (i, n, m, k, s, (s.length : Int), j, q, t)) (outB q i) _ _ z_Key s (by omega) ?_ ?_
 ·intro again j h0 h1
  have hw : Go.IntKind.wrap .i64 (j + 1) = j + 1 := w64 (by omega) (by omega)
  have hwi : Go.IntKind.wrap .i64 (i + 1) = i + 1 := w64 (by omega) (by omega)
  unfold S_impl_inBounds_5 outB F_impl_SpotOf spotK
  obtain ⟨⟨x1, x2, x3, x4, x5⟩, hx⟩ : ∃ x, rd_Key s j = x := ⟨_, rfl⟩
  have hx' : s.getD j.toNat z_Key = (x1, x2, x3, x4, x5) := hx
  have e1 : q.getD i.toNat 0 = rd_i64 q i := rfl
  have e2 : q.getD (i + 1).toNat 0 = rd_i64 q (i + 1) := rfl
  rw [hx', e1, e2]
  have hi1 : 0 ≤ i + 1 := by omega
  simp only [Bool.cond_eq_ite, decide_eq_true_eq, h0, h1, hi0, hi, hi1, if_true, hw, hwi, hx, Option.bind_some]
  by_cases h2 : Go.IntKind.wrap .i64 (Go.IntKind.wrap .i64 ((64 : Int) * x1) + x2) < rd_i64 q i
  ·simp [h2]
  ·by_cases h3 : i + 1 < (q.length : Int)
   ·simp [h2, h3]
   ·simp [h2, h3]
 ·intro again j hj
  unfold S_impl_inBounds_5
  simp only [Bool.cond_eq_ite, decide_eq_true_eq, if_neg hj]
theorem impl_inBounds_eq (q : List Int) (t : List E_Node) (i : Int) (ht : TOk t) (hi0 : 0 ≤ i) (hi : i < (t.length : Int)) (hq : q.length = t.length) : F_impl_inBounds (q, t, i) = some (!anyE (outN q i) (rd_Node t i) 0) := by
 have hmem : rd_Node t i ∈ t := getD_mem z_Node t i hi0 hi
 obtain ⟨hn, hs⟩ := ht.node hmem
 have hlen := ht.len
 have hq1 : i < (q.length : Int) := by omega
 have hq2 : q.length ≤ 1048576 := by omega
 unfold F_impl_inBounds L_impl_inBounds_2
 simp only [hi0, hi, if_true]
 generalize rd_Node t i = n at *
 refine (any_loop0 (step := S_impl_inBounds_2 _ _) (fun k => (i, n, (n.length : Int), k, q, t)) (outN q i) (some false) (some true) z_s_Key n (by omega) ?_ ?_).trans ?_
 ·intro again k h0 h1
  have hw : Go.IntKind.wrap .i64 (k + 1) = k + 1 := w64 (by omega) (by omega)
  have hsk : List.length (rd_s_Key n k) ≤ 1048576 := hs _ (getD_mem z_s_Key n k h0 h1)
  unfold S_impl_inBounds_2 outN
  have hx : n.getD k.toNat z_s_Key = rd_s_Key n k := rfl
  rw [hx]
  simp only [Bool.cond_eq_ite, decide_eq_true_eq, h0, h1, if_true, impl_inner _ _ i k (n.length : Int) q t n _ hi0 hq1 hq2 hsk, hw]
 ·intro again k hk
  unfold S_impl_inBounds_2
  simp only [Bool.cond_eq_ite, decide_eq_true_eq, if_neg hk]
 ·cases anyE (outN q i) n 0 <;> rfl
def lowsB (q : List Int) (i : Int) : Bool := decide (0 < i) && decide (q.getD (i - 1).toNat 0 ≥ q.getD i.toNat 0)
def badNode (q : List Int) (i : Int) (n : E_Node) : Bool := lowsB q i || !nodeB q i n
def tallOne (s : Int) (n : E_Node) : Int := Go.IntKind.wrap .i64 (s + ((nodeK n).length : Int))
def treeOkK (q : List Int) (t : List E_Node) : Bool :=
 inR (t.length : Int) 1 20 && (decide (q.length = t.length) && ((q.getD 0 0 == 0) && (!anyE (badNode q) t 0 && decide (((treeK t).length : Int) ≤ 60))))
theorem tall_eq : ∀ (t : List E_Node) (s : List E_Key), (s.length : Int) + sumW wSets t ≤ 1048576 → t.foldl tallOne (s.length : Int) = ((t.foldl treeOne s).length : Int)
 | [], _, _ => rfl
 | n :: t, s, h => by
  rw [sumW_cons] at h
  have h1 := nodeK_len n
  have h2 := wSets_ge n
  have h3 := sumW_nonneg wSets_nonneg t
  have h4 : (treeOne s n).length = s.length + (nodeK n).length := List.length_append
  rw [List.foldl_cons, List.foldl_cons, show tallOne (s.length : Int) n = ((treeOne s n).length : Int) by
   unfold tallOne
   rw [h4, w64 (by omega) (by omega)]
   omega]
  exact tall_eq t (treeOne s n) (by rw [h4]; omega)
theorem spec_TreeOk_eq (q : List Int) (t : List E_Node) (ht : TOk t) : F_spec_TreeOk (q, t) = some (treeOkK q t) := by
 have hlen := ht.len
 unfold F_spec_TreeOk treeOkK
 simp only [l1In_eq, Option.bind_some]
 cases h1 : inR (t.length : Int) 1 20
 ·rfl
 by_cases hq : q.length = t.length
 ·have hq' : ((q.length : Int) != (t.length : Int)) = false := by simp [hq]
  have hpos : 0 < (q.length : Int) := by
   have := (inR_iff.1 h1).1
   omega
  have hd : decide (q.length = t.length) = true := by simp [hq]
  simp only [hq', hd, Bool.not_true, cond_false, cond_true, Option.bind_some, Bool.true_and]
  rw [if_pos (Int.le_refl _), if_pos (by omega)]
  have e0 : rd_i64 q 0 = q.getD 0 0 := rfl
  rw [e0]
  try simp only [Option.bind_some]
  by_cases hz : q.getD 0 0 = 0
  ·have hz1 : (q.getD 0 0 != 0) = false := by rw [hz]; rfl
   have hz2 : (q.getD 0 0 == 0) = true := by rw [hz]; rfl
   rw [hz1, hz2]
   simp only [cond_false, Bool.true_and]
   unfold L_spec_TreeOk_4
   refine (any_loop0 (step := S_spec_TreeOk_4 _ _) (fun i => (i, q, t)) (badNode q) (some false) (some (decide (((treeK t).length : Int) ≤ 60))) z_Node t (by omega) ?_ ?_).trans ?_
   ·intro again i h0 h1
    have hw : Go.IntKind.wrap .i64 (i + 1) = i + 1 := w64 (by omega) (by omega)
    have hm : Go.IntKind.wrap .i64 (i - 1) = i - 1 := w64 (by omega) (by omega)
    have e := spec_l6Node_eq q t i ht h0 h1 hq
    unfold S_spec_TreeOk_4 badNode lowsB
    have hx : t.getD i.toNat z_Node = rd_Node t i := rfl
    have e1 : q.getD i.toNat 0 = rd_i64 q i := rfl
    have e2 : q.getD (i - 1).toNat 0 = rd_i64 q (i - 1) := rfl
    rw [hx, e1, e2]
    simp only [Bool.cond_eq_ite, decide_eq_true_eq, h0, h1, if_true, hw, hm, e, gt_iff_lt]
    by_cases h5 : 0 < i
    ·rw [if_pos h5, if_pos (by omega), if_pos (by omega), if_pos (by omega)]
     simp only [h5, decide_true, Option.bind_some, Bool.true_and]
     cases decide (rd_i64 q (i - 1) ≥ rd_i64 q i) <;> cases nodeB q i (rd_Node t i) <;> rfl
    ·rw [if_neg h5]
     simp only [h5, decide_false, Option.bind_some, Bool.false_and]
     cases nodeB q i (rd_Node t i) <;> rfl
   ·intro again i hi
    have e : F_spec_TreeKeys (q, t) = some (treeK t) := spec_TreeKeys_eq q t (by omega) ht.nodes ht.sum
    unfold S_spec_TreeOk_4
    simp only [Bool.cond_eq_ite, decide_eq_true_eq, if_neg hi, e, Option.bind_some]
   ·cases anyE (badNode q) t 0 <;> rfl
  ·have hz1 : (q.getD 0 0 != 0) = true := by simpa using hz
   have hz2 : (q.getD 0 0 == 0) = false := by simpa using hz
   rw [hz1, hz2]
   rfl
 ·have hq' : ((q.length : Int) != (t.length : Int)) = true := by
   simp only [bne_iff_ne, ne_eq]
   omega
  have hd : decide (q.length = t.length) = false := by simp [hq]
  simp only [hq', hd, Bool.not_true, cond_false, cond_true, Option.bind_some, Bool.false_and, Bool.and_false]
theorem impl_TreeOk_eq (q : List Int) (t : List E_Node) (ht : TOk t) : F_impl_TreeOk (q, t) = some (treeOkK q t) := by
 have hlen := ht.len
 unfold F_impl_TreeOk treeOkK
 simp only [within_eq, Option.bind_some]
 cases h1 : inR (t.length : Int) 1 20
 ·rfl
 by_cases hq : q.length = t.length
 ·have hq' : ((q.length : Int) != (t.length : Int)) = false := by simp [hq]
  have hpos : 0 < (q.length : Int) := by
   have := (inR_iff.1 h1).1
   omega
  have hd : decide (q.length = t.length) = true := by simp [hq]
  simp only [hq', hd, Bool.not_true, cond_false, cond_true, Option.bind_some, Bool.true_and]
  rw [if_pos (Int.le_refl _), if_pos (by omega)]
  have e0 : rd_i64 q 0 = q.getD 0 0 := rfl
  rw [e0]
  try simp only [Option.bind_some]
  by_cases hz : q.getD 0 0 = 0
  ·have hz1 : (q.getD 0 0 != 0) = false := by rw [hz]; rfl
   have hz2 : (q.getD 0 0 == 0) = true := by rw [hz]; rfl
   rw [hz1, hz2]
   simp only [cond_false, Bool.true_and]
   unfold L_impl_TreeOk_5
   refine (any_loop (step := S_impl_TreeOk_5 _ _) (fun (i s : Int) => (s, t, (t.length : Int), i, q, t)) (badNode q) tallOne (some false) (fun s => some (decide (s ≤ 60))) z_Node t (by omega) ?_ ?_ 0).trans ?_
   ·intro again i s h0 h1
    have hmem : rd_Node t i ∈ t := getD_mem z_Node t i h0 h1
    obtain ⟨hn, hss⟩ := ht.node hmem
    have hw : Go.IntKind.wrap .i64 (i + 1) = i + 1 := w64 (by omega) (by omega)
    have hm : Go.IntKind.wrap .i64 (i - 1) = i - 1 := w64 (by omega) (by omega)
    have e3 := impl_NodeOk_eq (rd_Node t i) (by omega) (fun s hh => by have := hss s hh; omega)
    have e4 := impl_inBounds_eq q t i ht h0 h1 hq
    have e5 : F_impl_NodeKeys (rd_Node t i) = some (nodeK (rd_Node t i)) := impl_NodeKeys_eq _ (by omega) (ht.sumK hmem)
    unfold S_impl_TreeOk_5 badNode lowsB nodeB emptyN tallOne
    have hx : t.getD i.toNat z_Node = rd_Node t i := rfl
    have e1 : q.getD i.toNat 0 = rd_i64 q i := rfl
    have e2 : q.getD (i - 1).toNat 0 = rd_i64 q (i - 1) := rfl
    rw [hx, e1, e2]
    simp only [Bool.cond_eq_ite, decide_eq_true_eq, h0, h1, if_true, hw, hm, e3, e4, e5, gt_iff_lt, Option.bind_some]
    by_cases h5 : 0 < i
    ·rw [if_pos h5, if_pos (by omega), if_pos (by omega), if_pos (by omega)]
     simp only [h5, decide_true, Option.bind_some, Bool.true_and, if_true]
     cases decide (rd_i64 q (i - 1) ≥ rd_i64 q i) <;> cases nodeOkK (rd_Node t i) <;> cases anyE (outN q i) (rd_Node t i) 0 <;> cases (((nodeK (rd_Node t i)).length : Int) == 0) <;> rfl
    ·rw [if_neg h5]
     simp only [h5, decide_false, Option.bind_some, Bool.false_and, if_false]
     cases nodeOkK (rd_Node t i) <;> cases anyE (outN q i) (rd_Node t i) 0 <;> rfl
   ·intro again i s hi
    unfold S_impl_TreeOk_5
    simp only [Bool.cond_eq_ite, decide_eq_true_eq, if_neg hi]
   ·have := tall_eq t [] (by have := ht.sum; simpa using this)
    simp only [List.length_nil] at this
    rw [show ((0 : Nat) : Int) = 0 from rfl] at this
    rw [this]
    unfold treeK
    cases anyE (badNode q) t 0 <;> rfl
  ·have hz1 : (q.getD 0 0 != 0) = true := by simpa using hz
   have hz2 : (q.getD 0 0 == 0) = false := by simpa using hz
   rw [hz1, hz2]
   rfl
 ·have hq' : ((q.length : Int) != (t.length : Int)) = true := by
   simp only [bne_iff_ne, ne_eq]
   omega
  have hd : decide (q.length = t.length) = false := by simp [hq]
  simp only [hq', hd, Bool.not_true, cond_false, cond_true, Option.bind_some, Bool.false_and, Bool.and_false]
end Go.Proofs.YtmapoakbdgpamaaGreat.Pl
namespace Go.Proofs.YtmapoakbdgpamaaGreat.Pl
open Go.Proofs.YtmapoakbdgpamaaGreat.R Go.Proofs.YtmapoakbdgpamaaGreat.XM
def isW (n : Int) : Bool := inR n 0 65535
theorem l1Word_eq (x : Int) : F_spec_l1Word x = some (isW x) := by unfold F_spec_l1Word; rw [l1In_eq]; rfl
theorem isWord_eq (x : Int) : F_impl_isWord x = some (isW x) := by unfold F_impl_isWord; rw [within_eq]; rfl
def nameByte (c : Int) : Bool := inR c 97 122 || inR c 48 57
def nameAll (l : List UInt8) : Bool := l.all fun c => nameByte (c.toNat : Int)
def nameOk (s : ByteArray) : Bool := nameAll s.data.toList && inR s.size 1 6
theorem w64_byte (c : UInt8) : Go.IntKind.wrap .i64 (c.toNat : Int) = c.toNat := by
 have := c.toNat_lt
 exact w64 (by omega) (by omega)
theorem get_byte (s : ByteArray) (i : Nat) (h : i < s.size) : ByteArray.get s i h = s.data.toList[i]'(by rw [Array.length_toList]; exact h) := by
 rw [Array.getElem_toList]
 rfl
theorem drop_byte (s : ByteArray) (i : Nat) (h : i < s.size) : s.data.toList.drop i = ByteArray.get s i h :: s.data.toList.drop (i + 1) := by
 rw [get_byte, ← List.drop_eq_getElem_cons]
theorem spec_NameOk_eq (s : ByteArray) (hs : s.size ≤ maxLen) : F_spec_NameOk s = some (nameOk s) := by
 have hm : (s.size : Int) ≤ 9223372036854775807 := by simp only [maxLen] at hs; omega
 unfold F_spec_NameOk L_spec_NameOk_2
 rw [loop_fuel (fun t : ByteArray × Int => t.1.size - t.2.toNat) (fun t => t.1 = s ∧ 0 ≤ t.2 ∧ t.2 ≤ s.size) (fun t => if nameAll (t.1.data.toList.drop t.2.toNat) then some (inR s.size 1 6) else some false) ?_ (s, 0) ⟨rfl, by simp, by simp⟩ (by simp only [maxLen] at hs; simp; omega)]
 ·unfold nameOk
  cases h : nameAll s.data.toList <;> simp [h]
 ·rintro again ⟨s', i⟩ ⟨rfl, h0, h1⟩ hag
  simp only at h0 h1 hs hm ⊢
  unfold S_spec_NameOk_2
  simp only [Bool.cond_eq_ite, decide_eq_true_eq]
  by_cases hi : i < (s'.size : Int)
  ·have hn : i.toNat < s'.size := by omega
   rw [if_pos hi, if_pos h0, dif_pos hn]
   simp only [l1In_eq, Option.bind_some, if_pos h0, dif_pos hn, w64_byte]
   rw [drop_byte s' i.toNat hn]
   have hw : Go.IntKind.wrap .i64 (i + 1) = i + 1 := w64 (by omega) (by omega)
   have e1 : (i + 1).toNat = i.toNat + 1 := by omega
   have hag' := hag (s', i + 1) ⟨rfl, by simp only; omega, by simp only; omega⟩ (by simp only; omega)
   simp only [nameAll, List.all_cons, nameByte] at hag' ⊢
   rw [hw, hag', e1]
   obtain ⟨c, hc⟩ : ∃ c, ByteArray.get s' i.toNat hn = c := ⟨_, rfl⟩
   simp only [hc]
   cases inR (c.toNat : Int) 97 122 <;> cases inR (c.toNat : Int) 48 57 <;> simp
  ·rw [if_neg hi, List.drop_of_length_le (by rw [Array.length_toList]; show s'.size ≤ _; omega)]
   simp [nameAll, l1In_eq]
theorem impl_NameOk_eq (s : ByteArray) (hs : s.size ≤ maxLen) : F_impl_NameOk s = some (nameOk s) := by
 have hm : (s.size : Int) ≤ 9223372036854775807 := by simp only [maxLen] at hs; omega
 unfold F_impl_NameOk L_impl_NameOk_2
 rw [loop_fuel (fun t : ByteArray × Int => t.1.size - t.2.toNat) (fun t => t.1 = s ∧ 0 ≤ t.2 ∧ t.2 ≤ s.size) (fun t => if nameAll (t.1.data.toList.drop t.2.toNat) then some (inR s.size 1 6) else some false) ?_ (s, 0) ⟨rfl, by simp, by simp⟩ (by simp only [maxLen] at hs; simp; omega)]
 ·unfold nameOk
  cases h : nameAll s.data.toList <;> simp [h]
 ·rintro again ⟨s', i⟩ ⟨rfl, h0, h1⟩ hag
  simp only at h0 h1 hs hm ⊢
  unfold S_impl_NameOk_2
  simp only [Bool.cond_eq_ite, decide_eq_true_eq]
  by_cases hi : i < (s'.size : Int)
  ·have hn : i.toNat < s'.size := by omega
   rw [if_pos hi, if_pos h0, dif_pos hn]
   simp only [within_eq, Option.bind_some, if_pos h0, dif_pos hn, w64_byte]
   rw [drop_byte s' i.toNat hn]
   have hw : Go.IntKind.wrap .i64 (i + 1) = i + 1 := w64 (by omega) (by omega)
   have e1 : (i + 1).toNat = i.toNat + 1 := by omega
   have hag' := hag (s', i + 1) ⟨rfl, by simp only; omega, by simp only; omega⟩ (by simp only; omega)
   simp only [nameAll, List.all_cons, nameByte] at hag' ⊢
   rw [hw, hag', e1]
   obtain ⟨c, hc⟩ : ∃ c, ByteArray.get s' i.toNat hn = c := ⟨_, rfl⟩
   simp only [hc]
   cases inR (c.toNat : Int) 97 122 <;> cases inR (c.toNat : Int) 48 57 <;> simp
  ·rw [if_neg hi, List.drop_of_length_le (by rw [Array.length_toList]; show s'.size ≤ _; omega)]
   simp [nameAll, within_eq]
end Go.Proofs.YtmapoakbdgpamaaGreat.Pl
namespace Go.Proofs.YtmapoakbdgpamaaGreat.Pl
open Go.Proofs.YtmapoakbdgpamaaGreat.R Go.Proofs.YtmapoakbdgpamaaGreat.XM
def fore (l : List E_Age) (i : Int) : List E_Age := List.drop (Int.toNat (0 : Int)) (List.take (Int.toNat i) l)
def agesB (l : List E_Age) (i : Int) (a : E_Age) : Bool := !inR a.1 1 60 || ((decide (0 < i) && decide ((l.getD (i - 1).toNat z_Age).1 ≥ a.1)) || (a.2 != 0 && decide (ageAt (fore l i) a.2 < 0)))
def agesOkK (l : List E_Age) : Bool := !anyE (agesB l) l 0 && decide ((l.length : Int) ≤ 16)
theorem fore_len (l : List E_Age) (i : Int) : (fore l i).length ≤ l.length := by
 unfold fore
 simp only [List.length_drop, List.length_take]
 omega
theorem spec_AgesOk_eq (l : List E_Age) (hl : l.length ≤ 1048576) : F_spec_AgesOk l = some (agesOkK l) := by
 unfold F_spec_AgesOk L_spec_AgesOk_2 agesOkK
 refine (any_loop0 (step := S_spec_AgesOk_2 _ _) (fun i => (l, i)) (agesB l) (some false) (some (decide ((l.length : Int) ≤ 16))) z_Age l (by omega) ?_ ?_).trans ?_
 ·intro again i h0 h1
  have hw : Go.IntKind.wrap .i64 (i + 1) = i + 1 := w64 (by omega) (by omega)
  have hm : Go.IntKind.wrap .i64 (i - 1) = i - 1 := w64 (by omega) (by omega)
  unfold S_spec_AgesOk_2 agesB
  obtain ⟨⟨x1, x2⟩, hx⟩ : ∃ x, rd_Age l i = x := ⟨_, rfl⟩
  have hx' : l.getD i.toNat z_Age = (x1, x2) := hx
  have hy : l.getD (i - 1).toNat z_Age = rd_Age l (i - 1) := rfl
  have e : F_spec_AgeAt (List.drop (Int.toNat (0 : Int)) (List.take (Int.toNat i) l), x2) = some (ageAt (fore l i) x2) := spec_AgeAt_eq (fore l i) x2 (by have := fore_len l i; omega)
  rw [hx', hy]
  have h2 : i ≤ (l.length : Int) := by omega
  simp only [Bool.cond_eq_ite, decide_eq_true_eq, h0, h1, h2, if_true, hw, hm, hx, l1In_eq, e, Option.bind_some, Int.le_refl, gt_iff_lt]
  cases inR x1 1 60
  ·rfl
  ·by_cases h5 : 0 < i
   ·have h3 : 0 ≤ i - 1 := by omega
    have h4 : i - 1 < (l.length : Int) := by omega
    simp only [h5, h3, h4, if_true, decide_true]
    cases decide ((rd_Age l (i - 1)).1 ≥ x1) <;> cases (x2 != 0) <;> cases decide (ageAt (fore l i) x2 < 0) <;> rfl
   ·simp only [h5, if_false, decide_false]
    cases (x2 != 0) <;> cases decide (ageAt (fore l i) x2 < 0) <;> rfl
 ·intro again i hi
  unfold S_spec_AgesOk_2
  simp only [Bool.cond_eq_ite, decide_eq_true_eq, if_neg hi]
 ·cases anyE (agesB l) l 0 <;> rfl
theorem impl_AgesOk_eq (l : List E_Age) (hl : l.length ≤ 1048576) : F_impl_AgesOk l = some (agesOkK l) := by
 unfold F_impl_AgesOk L_impl_AgesOk_2 agesOkK
 refine (any_loop0 (step := S_impl_AgesOk_2 _ _) (fun i => (l, l, (l.length : Int), i)) (agesB l) (some false) (some (decide ((l.length : Int) ≤ 16))) z_Age l (by omega) ?_ ?_).trans ?_
 ·intro again i h0 h1
  have hw : Go.IntKind.wrap .i64 (i + 1) = i + 1 := w64 (by omega) (by omega)
  have hm : Go.IntKind.wrap .i64 (i - 1) = i - 1 := w64 (by omega) (by omega)
  unfold S_impl_AgesOk_2 agesB
  obtain ⟨⟨x1, x2⟩, hx⟩ : ∃ x, rd_Age l i = x := ⟨_, rfl⟩
  have hx' : l.getD i.toNat z_Age = (x1, x2) := hx
  have hy : l.getD (i - 1).toNat z_Age = rd_Age l (i - 1) := rfl
  have e : F_impl_AgeAt (List.drop (Int.toNat (0 : Int)) (List.take (Int.toNat i) l), x2) = some (ageAt (fore l i) x2) := impl_AgeAt_eq (fore l i) x2 (by have := fore_len l i; omega)
  rw [hx', hy]
  have h2 : i ≤ (l.length : Int) := by omega
  simp only [Bool.cond_eq_ite, decide_eq_true_eq, h0, h1, h2, if_true, hw, hm, hx, within_eq, e, Option.bind_some, Int.le_refl, gt_iff_lt]
  cases inR x1 1 60
  ·rfl
  ·by_cases h5 : 0 < i
   ·have h3 : 0 ≤ i - 1 := by omega
    have h4 : i - 1 < (l.length : Int) := by omega
    simp only [h5, h3, h4, if_true, decide_true]
    cases decide ((rd_Age l (i - 1)).1 ≥ x1) <;> cases (x2 != 0) <;> cases decide (ageAt (fore l i) x2 < 0) <;> rfl
   ·simp only [h5, if_false, decide_false]
    cases (x2 != 0) <;> cases decide (ageAt (fore l i) x2 < 0) <;> rfl
 ·intro again i hi
  unfold S_impl_AgesOk_2
  simp only [Bool.cond_eq_ite, decide_eq_true_eq, if_neg hi]
 ·cases anyE (agesB l) l 0 <;> rfl
def kidOne (id : Int) (s : List Int) (a : E_Age) : List Int := if (a.2 == id && id != 0) = true then s ++ [a.1] else s
def kidsOf (l : List E_Age) (id : Int) : List Int := l.foldl (kidOne id) []
theorem kidOne_len (id : Int) (s : List Int) (a : E_Age) : (kidOne id s a).length ≤ s.length + 1 := by
 unfold kidOne
 split <;> simp
theorem spec_KidsOf_eq (l : List E_Age) (id : Int) (hl : l.length ≤ 1048576) : F_spec_KidsOf (l, id) = some (kidsOf l id) := by
 unfold F_spec_KidsOf L_spec_KidsOf_3 kidsOf
 refine fold_loop (step := S_spec_KidsOf_3 _) (fun (i : Int) (s : List Int) => (l, id, i, s)) (fun s => some s) z_Age (kidOne id) l (by omega) (fun i s => s.length ≤ i) ?_ ?_ [] (by simp)
 ·intro again i s h0 h1 hI
  have hw : Go.IntKind.wrap .i64 (i + 1) = i + 1 := w64 (by omega) (by omega)
  have hs := kidOne_len id s (l.getD i.toNat z_Age)
  refine ⟨?_, by omega⟩
  have c1 : (s.length + 1) * 8 < 140737488355328 := by omega
  clear hs
  unfold S_spec_KidsOf_3 kidOne
  obtain ⟨⟨x1, x2⟩, hx⟩ : ∃ x, rd_Age l i = x := ⟨_, rfl⟩
  have hx' : l.getD i.toNat z_Age = (x1, x2) := hx
  rw [hx']
  simp only [Bool.cond_eq_ite, decide_eq_true_eq, h0, h1, if_true, hw, hx, List.length_cons, List.length_nil, Nat.zero_add, c1]
  cases (x2 == id) <;> cases (id != 0) <;> rfl
 ·intro again i s hi
  unfold S_spec_KidsOf_3
  simp only [Bool.cond_eq_ite, decide_eq_true_eq, if_neg hi]
theorem kids_none (l : List E_Age) : kidsOf l 0 = [] := by
 have : ∀ (l : List E_Age) (s : List Int), l.foldl (kidOne 0) s = s := by
  intro l
  induction l with
  | nil => intro s; rfl
  | cons a l ih =>
   intro s
   rw [List.foldl_cons, ih]
   unfold kidOne
   simp
 exact this l []
theorem impl_KidsOf_eq (l : List E_Age) (id : Int) (hl : l.length ≤ 1048576) : F_impl_KidsOf (l, id) = some (kidsOf l id) := by
 unfold F_impl_KidsOf
 by_cases hid : id = 0
 ·subst hid
  rw [kids_none]
  rfl
 ·have hid1 : (id == 0) = false := by simpa using hid
  have hid2 : (id != 0) = true := by simpa using hid
  simp only [hid1, cond_false]
  unfold L_impl_KidsOf_5 kidsOf
  refine fold_loop (step := S_impl_KidsOf_5 _) (fun (i : Int) (s : List Int) => (id, l, (l.length : Int), i, s)) (fun s => some s) z_Age (kidOne id) l (by omega) (fun i s => s.length ≤ i) ?_ ?_ [] (by simp)
  ·intro again i s h0 h1 hI
   have hw : Go.IntKind.wrap .i64 (i + 1) = i + 1 := w64 (by omega) (by omega)
   have hs := kidOne_len id s (l.getD i.toNat z_Age)
   refine ⟨?_, by omega⟩
   have c1 : (s.length + 1) * 8 < 140737488355328 := by omega
   clear hs
   unfold S_impl_KidsOf_5 kidOne
   obtain ⟨⟨x1, x2⟩, hx⟩ : ∃ x, rd_Age l i = x := ⟨_, rfl⟩
   have hx' : l.getD i.toNat z_Age = (x1, x2) := hx
   rw [hx']
   simp only [Bool.cond_eq_ite, decide_eq_true_eq, h0, h1, if_true, hw, hx, List.length_cons, List.length_nil, Nat.zero_add, c1, hid2]
   cases (x2 == id) <;> rfl
  ·intro again i s hi
   unfold S_impl_KidsOf_5
   simp only [Bool.cond_eq_ite, decide_eq_true_eq, if_neg hi]
def cellB (_ : Int) (a : E_Cell) : Bool := !inR a.1 0 999 || (!isW a.2.2 || (!a.2.1 && a.2.2 != 0))
def cellsOkK (l : List E_Cell) : Bool := !anyE cellB l 0 && ((l.length : Int) == 24)
theorem spec_CellsOk_eq (l : List E_Cell) (hl : l.length ≤ 1048576) : F_spec_CellsOk l = some (cellsOkK l) := by
 unfold F_spec_CellsOk L_spec_CellsOk_2 cellsOkK
 refine (any_loop0 (step := S_spec_CellsOk_2 _ _) (fun i => (l, i)) cellB (some false) (some ((l.length : Int) == 24)) z_Cell l (by omega) ?_ ?_).trans ?_
 ·intro again i h0 h1
  have hw : Go.IntKind.wrap .i64 (i + 1) = i + 1 := w64 (by omega) (by omega)
  unfold S_spec_CellsOk_2 cellB
  obtain ⟨⟨x1, x2, x3⟩, hx⟩ : ∃ x, rd_Cell l i = x := ⟨_, rfl⟩
  have hx' : l.getD i.toNat z_Cell = (x1, x2, x3) := hx
  rw [hx']
  simp only [Bool.cond_eq_ite, decide_eq_true_eq, h0, h1, if_true, hw, hx, l1In_eq, l1Word_eq, Option.bind_some]
  cases inR x1 0 999 <;> cases isW x3 <;> cases x2 <;> cases (x3 != 0) <;> rfl
 ·intro again i hi
  unfold S_spec_CellsOk_2
  simp only [Bool.cond_eq_ite, decide_eq_true_eq, if_neg hi]
 ·cases anyE cellB l 0 <;> rfl
theorem impl_CellsOk_eq (l : List E_Cell) (hl : l.length ≤ 1048576) : F_impl_CellsOk l = some (cellsOkK l) := by
 unfold F_impl_CellsOk L_impl_CellsOk_2 cellsOkK
 refine (any_loop0 (step := S_impl_CellsOk_2 _ _) (fun i => (l, l, (l.length : Int), i)) cellB (some false) (some ((l.length : Int) == 24)) z_Cell l (by omega) ?_ ?_).trans ?_
 ·intro again i h0 h1
  have hw : Go.IntKind.wrap .i64 (i + 1) = i + 1 := w64 (by omega) (by omega)
  unfold S_impl_CellsOk_2 cellB
  obtain ⟨⟨x1, x2, x3⟩, hx⟩ : ∃ x, rd_Cell l i = x := ⟨_, rfl⟩
  have hx' : l.getD i.toNat z_Cell = (x1, x2, x3) := hx
  rw [hx']
  simp only [Bool.cond_eq_ite, decide_eq_true_eq, h0, h1, if_true, hw, hx, within_eq, isWord_eq, Option.bind_some]
  cases inR x1 0 999 <;> cases isW x3 <;> cases x2 <;> cases (x3 != 0) <;> rfl
 ·intro again i hi
  unfold S_impl_CellsOk_2
  simp only [Bool.cond_eq_ite, decide_eq_true_eq, if_neg hi]
 ·cases anyE cellB l 0 <;> rfl
def usedOne (s : Int) (a : E_Cell) : Int := if a.2.1 = true then Go.IntKind.wrap .i64 (s + 1) else s
def usedK (l : List E_Cell) : Int := l.foldl usedOne 0
theorem spec_Used_eq (l : List E_Cell) (hl : l.length ≤ 1048576) : F_spec_UsedCells l = some (usedK l) := by
 unfold F_spec_UsedCells L_spec_UsedCells_3 usedK
 refine fold_loop (step := S_spec_UsedCells_3 _) (fun (i s : Int) => (l, s, i)) (fun s => some s) z_Cell usedOne l (by omega) (fun _ _ => True) ?_ ?_ 0 trivial
 ·intro again i s h0 h1 _
  have hw : Go.IntKind.wrap .i64 (i + 1) = i + 1 := w64 (by omega) (by omega)
  refine ⟨?_, trivial⟩
  unfold S_spec_UsedCells_3 usedOne
  obtain ⟨⟨x1, x2, x3⟩, hx⟩ : ∃ x, rd_Cell l i = x := ⟨_, rfl⟩
  have hx' : l.getD i.toNat z_Cell = (x1, x2, x3) := hx
  rw [hx']
  simp only [Bool.cond_eq_ite, decide_eq_true_eq, h0, h1, if_true, hw, hx]
  cases x2 <;> rfl
 ·intro again i s hi
  unfold S_spec_UsedCells_3
  simp only [Bool.cond_eq_ite, decide_eq_true_eq, if_neg hi]
theorem impl_Used_eq (l : List E_Cell) (hl : l.length ≤ 1048576) : F_impl_UsedCells l = some (usedK l) := by
 unfold F_impl_UsedCells L_impl_UsedCells_3 usedK
 refine fold_loop (step := S_impl_UsedCells_3 _) (fun (i s : Int) => (s, l, (l.length : Int), i)) (fun s => some s) z_Cell usedOne l (by omega) (fun _ _ => True) ?_ ?_ 0 trivial
 ·intro again i s h0 h1 _
  have hw : Go.IntKind.wrap .i64 (i + 1) = i + 1 := w64 (by omega) (by omega)
  refine ⟨?_, trivial⟩
  unfold S_impl_UsedCells_3 usedOne
  obtain ⟨⟨x1, x2, x3⟩, hx⟩ : ∃ x, rd_Cell l i = x := ⟨_, rfl⟩
  have hx' : l.getD i.toNat z_Cell = (x1, x2, x3) := hx
  rw [hx']
  simp only [Bool.cond_eq_ite, decide_eq_true_eq, h0, h1, if_true, hw, hx]
  cases x2 <;> rfl
 ·intro again i s hi
  unfold S_impl_UsedCells_3
  simp only [Bool.cond_eq_ite, decide_eq_true_eq, if_neg hi]
def cellAtK (l : List E_Cell) (i gen : Int) : Int × Bool :=
 if inR i 0 ((l.length : Int) - 1) && ((l.getD i.toNat z_Cell).2.1 && ((l.getD i.toNat z_Cell).1 == gen)) then ((l.getD i.toNat z_Cell).2.2, true) else (0, false)
theorem spec_CellAt_eq (l : List E_Cell) (i gen : Int) (hl : l.length ≤ 1048576) : F_spec_CellAt (l, i, gen) = some (cellAtK l i gen) := by
 unfold F_spec_CellAt cellAtK
 have hm : Go.IntKind.wrap .i64 ((l.length : Int) - 1) = (l.length : Int) - 1 := w64 (by omega) (by omega)
 obtain ⟨⟨x1, x2, x3⟩, hx⟩ : ∃ x, rd_Cell l i = x := ⟨_, rfl⟩
 have hx' : l.getD i.toNat z_Cell = (x1, x2, x3) := hx
 rw [hx']
 simp only [hm, hx, l1In_eq, Option.bind_some]
 by_cases hr : inR i 0 ((l.length : Int) - 1) = true
 ·obtain ⟨h0, h1⟩ := inR_iff.1 hr
  rw [hr, if_pos h0, if_pos (by omega), if_pos h0, if_pos (by omega), if_pos h0, if_pos (by omega)]
  by_cases hg : x1 = gen
  ·have g1 : (x1 != gen) = false := by simp [hg]
   have g2 : (x1 == gen) = true := by simp [hg]
   rw [g1, g2]
   cases x2 <;> rfl
  ·have g1 : (x1 != gen) = true := by simpa using hg
   have g2 : (x1 == gen) = false := by simpa using hg
   rw [g1, g2]
   cases x2 <;> rfl
 ·have : inR i 0 ((l.length : Int) - 1) = false := by simpa using hr
  rw [this]
  rfl
theorem impl_CellAt_eq (l : List E_Cell) (i gen : Int) (hl : l.length ≤ 1048576) : F_impl_CellAt (l, i, gen) = some (cellAtK l i gen) := by
 rw [← spec_CellAt_eq l i gen hl]
 unfold F_impl_CellAt F_spec_CellAt
 simp only [within_eq, l1In_eq]
end Go.Proofs.YtmapoakbdgpamaaGreat.Pl
namespace Go.Proofs.YtmapoakbdgpamaaGreat.Pl
open Go.Proofs.YtmapoakbdgpamaaGreat.R Go.Proofs.YtmapoakbdgpamaaGreat.XM
theorem find_any {A : Type} (p : A → Bool) : ∀ (l : List A) (i j : Int), 0 ≤ i → decide (0 ≤ findI p l i) = anyE (fun _ a => p a) l j
 | [], i, j, _ => rfl
 | a :: l, i, j, h => by
  rw [findI, anyE, ← find_any p l (i + 1) (j + 1) (by omega)]
  cases p a with
  | true => simp [h]
  | false => rfl
theorem getD_take {A : Type} (da : A) (l : List A) (i j : Int) (h0 : 0 ≤ j) (h : j < i) : (l.take i.toNat).getD j.toNat da = l.getD j.toNat da := by
 rw [List.getD_eq_getElem?_getD, List.getD_eq_getElem?_getD, List.getElem?_take, if_pos (by omega)]
theorem take_len {A : Type} (l : List A) (i : Int) (h0 : 0 ≤ i) (h : i ≤ (l.length : Int)) : ((l.take i.toNat).length : Int) = i := by
 rw [List.length_take]
 omega
def sameAge (age : Int) (_ : Int) (u : E_Vol) : Bool := u.2.1 == age
def volB (vs : List E_Vol) (l : List E_Age) (i : Int) (v : E_Vol) : Bool :=
 !nameOk v.1 || (!inR v.2.2.1 1 12 || (decide (ageAt l v.2.1 < 0) || (decide (((kidsOf l v.2.1).length : Int) > 0) || ((decide (0 < i) && !Go.Op.bytesLess (ByteArray.toList (vs.getD (i - 1).toNat z_Vol).1) (ByteArray.toList v.1)) || anyE (sameAge v.2.1) (vs.take i.toNat) 0))))
def volsOkK (vs : List E_Vol) (l : List E_Age) : Bool := !anyE (volB vs l) vs 0 && decide ((vs.length : Int) ≤ 6)
theorem spec_vols_inner {R : Type} (k0 : (Bool × Int × List E_i64 × List E_Node × List E_Age × List E_Cell × List E_Vol × Int) → Option R) (k1 : (Int × List E_i64 × List E_Node × List E_Age × List E_Cell × List E_Vol × Int) → Option R) (i : Int) (q : List Int) (t : List E_Node) (l : List E_Age) (cs : List E_Cell) (vs : List E_Vol) (z : Int) (v1 : ByteArray) (v2 v3 : Int) (v4 : Bool) (h0 : 0 ≤ i) (h1 : i ≤ (vs.length : Int)) (hv : vs.length ≤ 1048576) :
  L_spec_l10Vols_8 k0 k1 (i, 0, q, t, l, cs, vs, z, v1, v2, v3, v4) = if anyE (sameAge v2) (vs.take i.toNat) 0 = true then k0 (false, i, q, t, l, cs, vs, z) else k1 (i, q, t, l, cs, vs, z) := by
 unfold L_spec_l10Vols_8
 have hlen := take_len vs i h0 h1
 refine any_loop0 (step := S_spec_l10Vols_8 k0 k1) (fun k => (i, k, q, t, l, cs, vs, z, v1, v2, v3, v4)) (sameAge v2) _ _ z_Vol (vs.take i.toNat) (by omega) ?_ ?_
 ·intro again k hk0 hk1
  rw [hlen] at hk1
  have hw : Go.IntKind.wrap .i64 (k + 1) = k + 1 := w64 (by omega) (by omega)
  have hk2 : k < (vs.length : Int) := by omega
  unfold S_spec_l10Vols_8 sameAge
  rw [getD_take z_Vol vs i k hk0 hk1]
  have hx : vs.getD k.toNat z_Vol = rd_Vol vs k := rfl
  rw [hx]
  simp only [Bool.cond_eq_ite, decide_eq_true_eq, hk0, hk1, hk2, if_true, hw]
 ·intro again k hk
  rw [hlen] at hk
  unfold S_spec_l10Vols_8
  simp only [Bool.cond_eq_ite, decide_eq_true_eq, if_neg hk]
theorem spec_Vols_eq (q : List Int) (t : List E_Node) (l : List E_Age) (cs : List E_Cell) (vs : List E_Vol) (z : Int) (hl : l.length ≤ 1048576) (hv : vs.length ≤ 1048576) (hvn : ∀ v ∈ vs, ByteArray.size v.1 ≤ maxLen) : F_spec_l10Vols (q, t, l, cs, vs, z) = some (volsOkK vs l) := by
 unfold F_spec_l10Vols L_spec_l10Vols_2 volsOkK
 refine (any_loop0 (step := S_spec_l10Vols_2 _ _) (fun i => (i, q, t, l, cs, vs, z)) (volB vs l) (some false) (some (decide ((vs.length : Int) ≤ 6))) z_Vol vs (by omega) ?_ ?_).trans ?_
 ·intro again i h0 h1
  have hw : Go.IntKind.wrap .i64 (i + 1) = i + 1 := w64 (by omega) (by omega)
  have hm : Go.IntKind.wrap .i64 (i - 1) = i - 1 := w64 (by omega) (by omega)
  have hmem := hvn _ (getD_mem z_Vol vs i h0 h1)
  unfold S_spec_l10Vols_2 volB
  obtain ⟨⟨x1, x2, x3, x4⟩, hx⟩ : ∃ x, rd_Vol vs i = x := ⟨_, rfl⟩
  have hx' : vs.getD i.toNat z_Vol = (x1, x2, x3, x4) := hx
  have hy : vs.getD (i - 1).toNat z_Vol = rd_Vol vs (i - 1) := rfl
  rw [hx'] at hmem
  rw [hx', hy]
  have e1 := spec_NameOk_eq x1 hmem
  have e2 := spec_AgeAt_eq l x2 (by omega)
  have e3 := spec_KidsOf_eq l x2 hl
  simp only [Bool.cond_eq_ite, decide_eq_true_eq, h0, h1, if_true, hw, hm, hx, l1In_eq, e1, e2, e3, spec_vols_inner _ _ i q t l cs vs z x1 x2 x3 x4 h0 (by omega) hv, Option.bind_some, gt_iff_lt]
  cases nameOk x1
  ·rfl
  by_cases h5 : 0 < i
  ·have h3 : 0 ≤ i - 1 := by omega
   have h4 : i - 1 < (vs.length : Int) := by omega
   simp only [h5, h3, h4, if_true, decide_true]
   by_cases ha : ageAt l x2 < 0 <;> by_cases hk : (0 : Int) < ((kidsOf l x2).length : Int) <;> simp only [ha, hk, if_true, if_false, decide_true, decide_false] <;> cases Go.Op.bytesLess (ByteArray.toList (rd_Vol vs (i - 1)).1) (ByteArray.toList x1) <;> cases inR x3 1 12 <;> cases anyE (sameAge x2) (vs.take i.toNat) 0 <;> rfl
  ·simp only [h5, if_false, decide_false]
   by_cases ha : ageAt l x2 < 0 <;> by_cases hk : (0 : Int) < ((kidsOf l x2).length : Int) <;> simp only [ha, hk, if_true, if_false, decide_true, decide_false] <;> cases inR x3 1 12 <;> cases anyE (sameAge x2) (vs.take i.toNat) 0 <;> rfl
 ·intro again i hi
  unfold S_spec_l10Vols_2
  simp only [Bool.cond_eq_ite, decide_eq_true_eq, if_neg hi]
 ·cases anyE (volB vs l) vs 0 <;> rfl
theorem impl_dup_eq (l : List E_Vol) (v1 : ByteArray) (v2 v3 : Int) (v4 : Bool) (hl : l.length ≤ 1048576) : F_slices_ContainsFunc_Vol_impl_volsOk_1 (l, v1, v2, v3, v4) = some (anyE (sameAge v2) l 0, v1, v2, v3, v4) := by
 have key : F_slices_IndexFunc_Vol_impl_volsOk_1 (l, v1, v2, v3, v4) = some (findI (fun u : E_Vol => u.2.1 == v2) l 0, v1, v2, v3, v4) := by
  unfold F_slices_IndexFunc_Vol_impl_volsOk_1 L_slices_IndexFunc_Vol_impl_volsOk_1_2
  refine (find_loop (step := S_slices_IndexFunc_Vol_impl_volsOk_1_2 _ _) (fun i => (l, (l.length : Int), i, v1, v2, v3, v4)) (fun u : E_Vol => u.2.1 == v2) (fun x => some (x, v1, v2, v3, v4)) (some (-1, v1, v2, v3, v4)) z_Vol l (by omega) ?_ ?_).trans ?_
  ·intro again i h0 h1
   have hw : Go.IntKind.wrap .i64 (i + 1) = i + 1 := w64 (by omega) (by omega)
   unfold S_slices_IndexFunc_Vol_impl_volsOk_1_2 F_impl_volsOk_1
   simp only [Bool.cond_eq_ite, decide_eq_true_eq, h0, h1, if_true, hw, Option.bind_some]
   rfl
  ·intro again i hi
   unfold S_slices_IndexFunc_Vol_impl_volsOk_1_2
   simp only [Bool.cond_eq_ite, decide_eq_true_eq, if_neg hi]
  ·rcases findI_spec (fun u : E_Vol => u.2.1 == v2) z_Vol l 0 (Int.le_refl _) with h | ⟨h1, h2, h3⟩
   ·rw [h]
    rfl
   ·rw [if_neg (by omega)]
 unfold F_slices_ContainsFunc_Vol_impl_volsOk_1
 rw [key]
 simp only [Option.bind_some, ge_iff_le]
 rw [find_any _ l 0 0 (Int.le_refl _)]
 rfl
theorem impl_Vols_eq (q : List Int) (t : List E_Node) (l : List E_Age) (cs : List E_Cell) (vs : List E_Vol) (z : Int) (hl : l.length ≤ 1048576) (hv : vs.length ≤ 1048576) (hvn : ∀ v ∈ vs, ByteArray.size v.1 ≤ maxLen) : F_impl_volsOk (q, t, l, cs, vs, z) = some (volsOkK vs l) := by
 unfold F_impl_volsOk L_impl_volsOk_2 volsOkK
 refine (any_loop0 (step := S_impl_volsOk_2 _ _) (fun i => (vs, (vs.length : Int), i, q, t, l, cs, vs, z)) (volB vs l) (some false) (some (decide ((vs.length : Int) ≤ 6))) z_Vol vs (by omega) ?_ ?_).trans ?_
 ·intro again i h0 h1
  have hw : Go.IntKind.wrap .i64 (i + 1) = i + 1 := w64 (by omega) (by omega)
  have hm : Go.IntKind.wrap .i64 (i - 1) = i - 1 := w64 (by omega) (by omega)
  have hmem := hvn _ (getD_mem z_Vol vs i h0 h1)
  unfold S_impl_volsOk_2 volB
  obtain ⟨⟨x1, x2, x3, x4⟩, hx⟩ : ∃ x, rd_Vol vs i = x := ⟨_, rfl⟩
  have hx' : vs.getD i.toNat z_Vol = (x1, x2, x3, x4) := hx
  have hy : vs.getD (i - 1).toNat z_Vol = rd_Vol vs (i - 1) := rfl
  rw [hx'] at hmem
  rw [hx', hy]
  have e1 := impl_NameOk_eq x1 hmem
  have e2 := impl_AgeAt_eq l x2 (by omega)
  have e3 := impl_KidsOf_eq l x2 hl
  have e4 : F_slices_ContainsFunc_Vol_impl_volsOk_1 (List.drop (Int.toNat (0 : Int)) (List.take (Int.toNat i) vs), x1, x2, x3, x4) = some (anyE (sameAge x2) (vs.take i.toNat) 0, x1, x2, x3, x4) := impl_dup_eq (vs.take i.toNat) x1 x2 x3 x4 (by simp only [List.length_take]; omega)
  have h2 : i ≤ (vs.length : Int) := by omega
  simp only [Bool.cond_eq_ite, decide_eq_true_eq, h0, h1, h2, if_true, hw, hm, hx, within_eq, e1, e2, e3, e4, Option.bind_some, gt_iff_lt, Int.le_refl]
  cases nameOk x1
  ·rfl
  by_cases h5 : 0 < i
  ·have h3 : 0 ≤ i - 1 := by omega
   have h4 : i - 1 < (vs.length : Int) := by omega
   simp only [h5, h3, h4, if_true, decide_true]
   by_cases ha : ageAt l x2 < 0 <;> by_cases hk : (0 : Int) < ((kidsOf l x2).length : Int) <;> simp only [ha, hk, if_true, if_false, decide_true, decide_false] <;> cases Go.Op.bytesLess (ByteArray.toList (rd_Vol vs (i - 1)).1) (ByteArray.toList x1) <;> cases inR x3 1 12 <;> cases anyE (sameAge x2) (vs.take i.toNat) 0 <;> rfl
  ·simp only [h5, if_false, decide_false]
   by_cases ha : ageAt l x2 < 0 <;> by_cases hk : (0 : Int) < ((kidsOf l x2).length : Int) <;> simp only [ha, hk, if_true, if_false, decide_true, decide_false] <;> cases inR x3 1 12 <;> cases anyE (sameAge x2) (vs.take i.toNat) 0 <;> rfl
 ·intro again i hi
  unfold S_impl_volsOk_2
  simp only [Bool.cond_eq_ite, decide_eq_true_eq, if_neg hi]
 ·cases anyE (volB vs l) vs 0 <;> rfl
end Go.Proofs.YtmapoakbdgpamaaGreat.Pl
namespace Go.Proofs.YtmapoakbdgpamaaGreat.Pl
open Go.Proofs.YtmapoakbdgpamaaGreat.R Go.Proofs.YtmapoakbdgpamaaGreat.XM
def dupCell (c : Int) (_ : Int) (u : E_Key) : Bool := (u.2.2.1 == 1) && (u.2.2.2.1 == c)
def keyB (ks : List E_Key) (l : List E_Age) (cs : List E_Cell) (i : Int) (a : E_Key) : Bool :=
 decide (ageAt l a.2.1 < 0) || ((a.2.2.1 == 1) && (!(cellAtK cs a.2.2.2.1 a.2.2.2.2).2 || anyE (dupCell a.2.2.2.1) (ks.take i.toNat) 0))
def datOne (n : Int) (a : E_Key) : Int := if (a.2.2.1 == 1) = true then Go.IntKind.wrap .i64 (n + 1) else n
def keysFitK (ks : List E_Key) (l : List E_Age) (cs : List E_Cell) : Bool := !anyE (keyB ks l cs) ks 0 && (ks.foldl datOne 0 == usedK cs)
theorem spec_keys_inner {R : Type} (k0 : (Bool × Int × Int × List E_i64 × List E_Node × List E_Age × List E_Cell × List E_Vol × Int × List E_Key) → Option R) (k1 : (Int × Int × List E_i64 × List E_Node × List E_Age × List E_Cell × List E_Vol × Int × List E_Key) → Option R) (n i : Int) (q : List Int) (t : List E_Node) (l : List E_Age) (cs : List E_Cell) (vs : List E_Vol) (z : Int) (ks : List E_Key) (h0 : 0 ≤ i) (h1 : i < (ks.length : Int)) (hk : ks.length ≤ 1048576) :
  L_spec_l10Keys_14 k0 k1 (n, i, 0, q, t, l, cs, vs, z, ks) = if anyE (dupCell (rd_Key ks i).2.2.2.1) (ks.take i.toNat) 0 = true then k0 (false, n, i, q, t, l, cs, vs, z, ks) else k1 (n, i, q, t, l, cs, vs, z, ks) := by
 unfold L_spec_l10Keys_14
 have hlen := take_len ks i h0 (by omega)
 refine any_loop0 (step := S_spec_l10Keys_14 k0 k1) (fun k => (n, i, k, q, t, l, cs, vs, z, ks)) (dupCell (rd_Key ks i).2.2.2.1) _ _ z_Key (ks.take i.toNat) (by omega) ?_ ?_
 ·intro again k hk0 hk1
  rw [hlen] at hk1
  have hw : Go.IntKind.wrap .i64 (k + 1) = k + 1 := w64 (by omega) (by omega)
  have hk2 : k < (ks.length : Int) := by omega
  unfold S_spec_l10Keys_14 dupCell
  rw [getD_take z_Key ks i k hk0 hk1]
  have hx : ks.getD k.toNat z_Key = rd_Key ks k := rfl
  rw [hx]
  simp only [Bool.cond_eq_ite, decide_eq_true_eq, hk0, hk1, hk2, h0, h1, if_true, hw]
  cases ((rd_Key ks k).2.2.1 == 1) <;> cases ((rd_Key ks k).2.2.2.1 == (rd_Key ks i).2.2.2.1) <;> rfl
 ·intro again k hk
  rw [hlen] at hk
  unfold S_spec_l10Keys_14
  simp only [Bool.cond_eq_ite, decide_eq_true_eq, if_neg hk]
theorem spec_keysFit_eq (q : List Int) (t : List E_Node) (l : List E_Age) (cs : List E_Cell) (vs : List E_Vol) (z : Int) (ht : TOk t) (hl : l.length ≤ 1048576) (hc : cs.length ≤ 1048576) : F_spec_l10Keys (q, t, l, cs, vs, z) = some (keysFitK (treeK t) l cs) := by
 unfold F_spec_l10Keys L_spec_l10Keys_4 keysFitK
 have hk := ht.keys
 have e : F_spec_TreeKeys (q, t) = some (treeK t) := spec_TreeKeys_eq q t (by have := ht.len; omega) ht.nodes ht.sum
 simp only [e, Option.bind_some]
 generalize treeK t = ks at hk
 refine (any_loop (step := S_spec_l10Keys_4 _ _) (fun (i n : Int) => (n, i, q, t, l, cs, vs, z, ks)) (keyB ks l cs) datOne (some false) (fun n => some (n == usedK cs)) z_Key ks (by omega) ?_ ?_ 0).trans ?_
 ·intro again i n h0 h1
  have hw : Go.IntKind.wrap .i64 (i + 1) = i + 1 := w64 (by omega) (by omega)
  unfold S_spec_l10Keys_4 keyB datOne
  have hin := fun (k0 : (Bool × Int × Int × List E_i64 × List E_Node × List E_Age × List E_Cell × List E_Vol × Int × List E_Key) → Option Bool) k1 m => spec_keys_inner k0 k1 m i q t l cs vs z ks h0 h1 hk
  obtain ⟨⟨x1, x2, x3, x4, x5⟩, hx⟩ : ∃ x, rd_Key ks i = x := ⟨_, rfl⟩
  have hx' : ks.getD i.toNat z_Key = (x1, x2, x3, x4, x5) := hx
  rw [hx']
  rw [hx] at hin
  have e1 := spec_AgeAt_eq l x2 (by omega)
  have e2 := spec_CellAt_eq cs x4 x5 hc
  simp only [Bool.cond_eq_ite, decide_eq_true_eq, h0, h1, if_true, hw, hx, e1, e2, hin, Option.bind_some]
  by_cases ha : ageAt l x2 < 0
  ·simp only [ha, if_true, decide_true, Bool.true_or]
  ·simp only [ha, if_false, decide_false, Bool.false_or]
   by_cases h3 : x3 = 1
   ·have g1 : (x3 == 1) = true := by simp [h3]
    have g2 : (x3 != 1) = false := by simp [h3]
    rw [g1, g2]
    cases (cellAtK cs x4 x5).2 <;> cases anyE (dupCell x4) (ks.take i.toNat) 0 <;> rfl
   ·have g1 : (x3 == 1) = false := by simpa using h3
    have g2 : (x3 != 1) = true := by simpa using h3
    rw [g1, g2]
    rfl
 ·intro again i n hi
  unfold S_spec_l10Keys_4
  simp only [Bool.cond_eq_ite, decide_eq_true_eq, if_neg hi, spec_Used_eq cs hc, Option.bind_some]
 ·cases anyE (keyB ks l cs) ks 0 <;> rfl
theorem dup_succ (c : Int) : ∀ (l : List E_Key) (i : Int) (j : Nat), j < l.length → anyE (dupCell c) (l.take (j + 1)) i = (anyE (dupCell c) (l.take j) i || dupCell c 0 (l.getD j z_Key))
 | a :: l, i, 0, _ => by simp [anyE, dupCell]
 | a :: l, i, j + 1, h => by
  have := dup_succ c l (i + 1) j (by simpa using h)
  rw [List.take_succ_cons, anyE, this, List.take_succ_cons, anyE, List.getD_cons_succ, Bool.or_assoc]
def tkOne (s : Int × List Bool) (a : E_Key) : Int × List Bool := (datOne s.1 a, if (a.2.2.1 == 1) = true then s.2.set a.2.2.2.1.toNat true else s.2)
theorem tk_fst : ∀ (l : List E_Key) (s : Int × List Bool), (l.foldl tkOne s).1 = l.foldl datOne s.1
 | [], _ => rfl
 | a :: l, s => tk_fst l (tkOne s a)
theorem impl_keysFit_eq (q : List Int) (t : List E_Node) (l : List E_Age) (cs : List E_Cell) (vs : List E_Vol) (z : Int) (ht : TOk t) (hl : l.length ≤ 1048576) (hc : cs.length = 24) : F_impl_keysFit (q, t, l, cs, vs, z) = some (keysFitK (treeK t) l cs) := by
 unfold F_impl_keysFit L_impl_keysFit_4 keysFitK
 have hk := ht.keys
 have e : F_impl_TreeKeys (q, t) = some (treeK t) := impl_TreeKeys_eq q t (by have := ht.len; omega) ht.nodes ht.sum
 rw [if_pos (by omega), if_pos (Int.le_refl _), if_pos (by omega)]
 simp only [e, Option.bind_some]
 generalize treeK t = ks at hk
 refine (runE_from (step := S_impl_keysFit_4 _ _) (fun (i : Int) (s : Int × List Bool) => (s.1, (ks.length : Int), i, q, t, l, cs, vs, z, s.2, ks)) (fun i s a => if keyB ks l cs i a = true then .error (some false) else .ok (tkOne s a)) (fun s => some (s.1 == usedK cs)) z_Key ks (by omega) (fun j s => s.2.length = 24 ∧ ∀ c : Nat, c < 24 → s.2.getD c false = anyE (dupCell (c : Int)) (ks.take j) 0) ?_ ?_ 0 (Int.le_refl _) (0, List.replicate (Int.toNat 24) z_bool) ⟨rfl, fun c hc => ?_⟩).trans ?_
 ·rintro again i ⟨n, tk⟩ h0 h1 ⟨hI1, hI2⟩
  simp only at hI1 hI2
  have hw : Go.IntKind.wrap .i64 (i + 1) = i + 1 := w64 (by omega) (by omega)
  obtain ⟨⟨x1, x2, x3, x4, x5⟩, hx⟩ : ∃ x, rd_Key ks i = x := ⟨_, rfl⟩
  have hx' : ks.getD i.toNat z_Key = (x1, x2, x3, x4, x5) := hx
  have hgd : ks.getD i.toNat z_Key = ks.getD i.toNat z_Key := rfl
  have e1 := impl_AgeAt_eq l x2 (by omega)
  have e2 := impl_CellAt_eq cs x4 x5 (by omega)
  have hcell : (cellAtK cs x4 x5).2 = true → 0 ≤ x4 ∧ x4 < 24 := fun h => by
   unfold cellAtK at h
   split at h
   ·rename_i hh
    simp only [Bool.and_eq_true] at hh
    have := inR_iff.1 hh.1
    omega
   ·cases h
  rw [hx']
  refine ⟨?_, fun s' hs' => ?_⟩
  ·unfold S_impl_keysFit_4 keyB tkOne datOne
   simp only [Bool.cond_eq_ite, decide_eq_true_eq, h0, h1, if_true, hw, hx, e1, e2, Option.bind_some]
   by_cases ha : ageAt l x2 < 0
   ·simp only [ha, if_true, decide_true, Bool.true_or]
   ·simp only [ha, if_false, decide_false, Bool.false_or]
    by_cases h3 : x3 = 1
    ·have g1 : (x3 == 1) = true := by simp [h3]
     have g2 : (x3 != 1) = false := by simp [h3]
     rw [g1, g2]
     cases hok : (cellAtK cs x4 x5).2 with
     | false => rfl
     | true =>
      obtain ⟨b0, b1⟩ := hcell hok
      have b2 : x4 < (tk.length : Int) := by omega
      have hrd : rd_bool tk x4 = anyE (dupCell x4) (ks.take i.toNat) 0 := by
       have := hI2 x4.toNat (by omega)
       rw [show ((x4.toNat : Nat) : Int) = x4 by omega] at this
       exact this
      simp only [b0, b2, if_true, hrd]
      cases anyE (dupCell x4) (ks.take i.toNat) 0 <;> rfl
    ·have g1 : (x3 == 1) = false := by simpa using h3
     have g2 : (x3 != 1) = true := by simpa using h3
     rw [g1, g2]
     rfl
  ·by_cases hb : keyB ks l cs i (x1, x2, x3, x4, x5) = true
   ·rw [if_pos hb] at hs'
    cases hs'
   ·rw [if_neg hb] at hs'
    injection hs' with hs'
    subst hs'
    have hsucc : ∀ c : Int, anyE (dupCell c) (ks.take (i.toNat + 1)) 0 = (anyE (dupCell c) (ks.take i.toNat) 0 || dupCell c 0 (x1, x2, x3, x4, x5)) := fun c => by
     rw [dup_succ c ks 0 i.toNat (by omega), hx']
    unfold tkOne
    simp only
    by_cases h3 : x3 = 1
    ·have g1 : (x3 == 1) = true := by simp [h3]
     simp only [g1, if_true]
     have hok : (cellAtK cs x4 x5).2 = true := by
      unfold keyB at hb
      simp only [g1] at hb
      cases hh : (cellAtK cs x4 x5).2 with
      | true => rfl
      | false =>
       rw [hh] at hb
       simp at hb
     obtain ⟨b0, b1⟩ := hcell hok
     refine ⟨by simpa using hI1, fun c hc => ?_⟩
     rw [hsucc, ← hI2 c hc]
     unfold dupCell
     simp only [g1, Bool.true_and]
     rw [List.getD_eq_getElem?_getD, List.getD_eq_getElem?_getD]
     by_cases hcx : c = x4.toNat
     ·rw [← hcx, List.getElem?_set_self (by omega)]
      have : (x4 == (c : Int)) = true := by
       simp only [beq_iff_eq]
       omega
      rw [this]
      simp
     ·rw [List.getElem?_set_ne (fun h => hcx h.symm)]
      have : (x4 == (c : Int)) = false := by
       simp only [beq_eq_false_iff_ne, ne_eq]
       omega
      rw [this]
      simp
    ·have g1 : (x3 == 1) = false := by simpa using h3
     simp only [g1, Bool.false_eq_true, if_false]
     refine ⟨hI1, fun c hc => ?_⟩
     rw [hsucc, ← hI2 c hc]
     unfold dupCell
     simp only [g1, Bool.false_and, Bool.or_false]
 ·rintro again i ⟨n, tk⟩ hi
  unfold S_impl_keysFit_4
  simp only [Bool.cond_eq_ite, decide_eq_true_eq, if_neg hi, impl_Used_eq cs (by omega), Option.bind_some]
  rw [Bool.beq_comm]
 ·show (List.replicate 24 false).getD c false = _
  rw [List.getD_eq_getElem?_getD, List.getElem?_replicate]
  simp [anyE, hc]
 ·have := runE_any (keyB ks l cs) tkOne (some false) (fun s : Int × List Bool => some (s.1 == usedK cs)) ks 0 (0, List.replicate (Int.toNat 24) z_bool)
  rw [show (0 : Int).toNat = 0 from rfl, List.drop_zero, this, tk_fst]
  cases anyE (keyB ks l cs) ks 0 <;> rfl
def lateAge (z : Int) (_ : Int) (a : E_Age) : Bool := decide (a.1 ≥ z)
def poolOkK (q : List Int) (t : List E_Node) (l : List E_Age) (cs : List E_Cell) (vs : List E_Vol) (z : Int) : Bool :=
 treeOkK q t && (agesOkK l && (cellsOkK cs && (inR z 1 61 && (!anyE (lateAge z) l 0 && (volsOkK vs l && keysFitK (treeK t) l cs)))))
theorem spec_PoolOk_eq (q : List Int) (t : List E_Node) (l : List E_Age) (cs : List E_Cell) (vs : List E_Vol) (z : Int) (ht : TOk t) (hl : l.length ≤ 1048576) (hc : cs.length ≤ 1048576) (hv : vs.length ≤ 1048576) (hvn : ∀ v ∈ vs, ByteArray.size v.1 ≤ maxLen) : F_spec_PoolOk (q, t, l, cs, vs, z) = some (poolOkK q t l cs vs z) := by
 unfold F_spec_PoolOk L_spec_PoolOk_2 poolOkK
 refine (any_loop0 (step := S_spec_PoolOk_2 _ _) (fun i => (i, q, t, l, cs, vs, z)) (lateAge z) (some false) (some (treeOkK q t && (agesOkK l && (cellsOkK cs && (inR z 1 61 && (volsOkK vs l && keysFitK (treeK t) l cs)))))) z_Age l (by omega) ?_ ?_).trans ?_
 ·intro again i h0 h1
  have hw : Go.IntKind.wrap .i64 (i + 1) = i + 1 := w64 (by omega) (by omega)
  unfold S_spec_PoolOk_2 lateAge
  have hx : l.getD i.toNat z_Age = rd_Age l i := rfl
  rw [hx]
  simp only [Bool.cond_eq_ite, decide_eq_true_eq, h0, h1, if_true, hw]
 ·intro again i hi
  unfold S_spec_PoolOk_2
  simp only [Bool.cond_eq_ite, decide_eq_true_eq, if_neg hi, spec_TreeOk_eq q t ht, spec_AgesOk_eq l hl, spec_CellsOk_eq cs hc, l1In_eq, spec_Vols_eq q t l cs vs z hl hv hvn, spec_keysFit_eq q t l cs vs z ht hl hc, Option.bind_some]
  cases treeOkK q t <;> cases agesOkK l <;> cases cellsOkK cs <;> cases inR z 1 61 <;> cases volsOkK vs l <;> rfl
 ·cases anyE (lateAge z) l 0 <;> cases treeOkK q t <;> cases agesOkK l <;> cases cellsOkK cs <;> cases inR z 1 61 <;> rfl
theorem impl_PoolOk_eq (q : List Int) (t : List E_Node) (l : List E_Age) (cs : List E_Cell) (vs : List E_Vol) (z : Int) (ht : TOk t) (hl : l.length ≤ 1048576) (hc : cs.length ≤ 1048576) (hv : vs.length ≤ 1048576) (hvn : ∀ v ∈ vs, ByteArray.size v.1 ≤ maxLen) : F_impl_PoolOk (q, t, l, cs, vs, z) = some (poolOkK q t l cs vs z) := by
 unfold F_impl_PoolOk poolOkK
 simp only [impl_TreeOk_eq q t ht, impl_AgesOk_eq l hl, impl_CellsOk_eq cs hc, within_eq, Option.bind_some]
 cases treeOkK q t
 ·rfl
 cases agesOkK l
 ·rfl
 cases hcc : cellsOkK cs
 ·rfl
 cases inR z 1 61
 ·rfl
 have hc24 : cs.length = 24 := by
  unfold cellsOkK at hcc
  simp only [Bool.and_eq_true, beq_iff_eq] at hcc
  omega
 simp only [Bool.not_true, cond_false, Option.bind_some, Bool.true_and]
 unfold L_impl_PoolOk_4
 refine (any_loop0 (step := S_impl_PoolOk_4 _ _) (fun i => (l, (l.length : Int), i, q, t, l, cs, vs, z)) (lateAge z) (some false) (some (volsOkK vs l && keysFitK (treeK t) l cs)) z_Age l (by omega) ?_ ?_).trans ?_
 ·intro again i h0 h1
  have hw : Go.IntKind.wrap .i64 (i + 1) = i + 1 := w64 (by omega) (by omega)
  unfold S_impl_PoolOk_4 lateAge
  have hx : l.getD i.toNat z_Age = rd_Age l i := rfl
  rw [hx]
  simp only [Bool.cond_eq_ite, decide_eq_true_eq, h0, h1, if_true, hw]
 ·intro again i hi
  unfold S_impl_PoolOk_4
  simp only [Bool.cond_eq_ite, decide_eq_true_eq, if_neg hi, impl_Vols_eq q t l cs vs z hl hv hvn, impl_keysFit_eq q t l cs vs z ht hl hc24, Option.bind_some]
  cases volsOkK vs l <;> rfl
 ·cases anyE (lateAge z) l 0 <;> rfl
end Go.Proofs.YtmapoakbdgpamaaGreat.Pl
