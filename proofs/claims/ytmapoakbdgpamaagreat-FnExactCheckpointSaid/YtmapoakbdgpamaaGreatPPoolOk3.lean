/- Base, Loops, Marks, MarkC, Rng, Pool, Keys, Tree, Seen, See, Whole, Walk, Oks, Trees, Names, PoolOk, PoolOk2, PoolOk3. No condition. -/
import Derived.Test.YtmapoakbdgpamaaGreatDQ1
import Derived.Laws.BitsLemmas
set_option linter.all false
namespace Go.Proofs.YtmapoakbdgpamaaGreat.Pl
open Go.Proofs.YtmapoakbdgpamaaGreat.R Go.Proofs.YtmapoakbdgpamaaGreat.XQ
theorem yns {T R : Type} {step : (T → Option R) → T → Option R} (μ : T → Nat) (inv : T → Prop) (G : T → Option R)
  (h : ∀ again t, inv t → (∀ t', inv t' → μ t' < μ t → again t' = G t') → step again t = G t) : ∀ (n : Nat) (t : T), inv t → μ t < n → yS step n t = G t := by
 intro n
 induction n with
 | zero => intro t _ hn; omega
 | succ n ih =>
  intro t ht hn
  rw [yS]
  exact h _ t ht fun t' ht' hlt => ih t' ht' (by omega)
theorem zU {T R : Type} {step : (T → Option R) → T → Option R} (μ : T → Nat) (inv : T → Prop) (G : T → Option R)
  (h : ∀ again t, inv t → (∀ t', inv t' → μ t' < μ t → again t' = G t') → step again t = G t) (t : T) (ht : inv t) (hn : μ t < 18446744073709551616) : yS step z3 t = G t :=
 yns μ inv G h z3 t ht (by rw [Ku]; exact hn)
theorem w64 {n : Int} (h0 : -9223372036854775808 ≤ n) (h1 : n ≤ 9223372036854775807) : Go.IntKind.wrap .i64 n = n := by
 rw [IntKind.wrap_i64]
 omega
def inR (x a b : Int) : Bool := decide (a ≤ x) && decide (x ≤ b)
theorem Zk {x a b : Int} : inR x a b = true ↔ a ≤ x ∧ x ≤ b := by simp [inR]
theorem y6A (n : Nat) (h : n < 9223372036854775808) : IntKind.i64.wrap (n : Int) = n := by
 rw [IntKind.wrap_i64]
 omega
theorem ybO (x : Int) : ((BitVec.ofInt 64 x).toNat : Int) = x % 18446744073709551616 := by
 rw [BitVec.toNat_ofInt]
 omega
theorem yde (x : Int) (m : Nat) (j : Nat) (hj : j < 63) (hm : m = 2 ^ j - 1) : bits .and .i64 x m = x % (2 ^ j : Nat) := by
 have hd : (2 ^ j : Nat) ∣ 18446744073709551616 := by
  have : (18446744073709551616 : Nat) = 2 ^ j * 2 ^ (64 - j) := by rw [← Nat.pow_add, show j + (64 - j) = 64 by omega]
  rw [this]
  exact Nat.dvd_mul_right _ _
 have hlt : m < 18446744073709551616 := by
  have : 2 ^ j ≤ 2 ^ 64 := Nat.pow_le_pow_right (by omega) (by omega)
  have h1 : 0 < 2 ^ j := Nat.two_pow_pos j
  omega
 have hj63 : 2 ^ j < 9223372036854775808 := by
  have : 2 ^ j ≤ 2 ^ 62 := Nat.pow_le_pow_right (by omega) (by omega)
  omega
 show IntKind.i64.wrap ((BitVec.ofInt 64 x &&& BitVec.ofInt 64 (m : Int)).toNat : Int) = _
 rw [BitVec.toNat_and, BitVec.ofInt_natCast, BitVec.toNat_ofNat, Nat.mod_eq_of_lt hlt, hm, Nat.and_two_pow_sub_one_eq_mod]
 have h2 := Nat.mod_lt (BitVec.ofInt 64 x).toNat (Nat.two_pow_pos j)
 rw [y6A _ (by omega), Int.natCast_emod, ybO]
 exact Int.emod_emod_of_dvd _ (Int.ofNat_dvd.2 hd)
theorem yvL (x : Int) : bits .and .i64 x 255 = x % 256 := yde x 255 8 (by omega) (by decide)
theorem yH7 (x : Int) : bits .and .i64 x 1 = x % 2 := yde x 1 1 (by omega) (by decide)
theorem ynt (a b : Nat) (ha : a < 9223372036854775808) (hb : b < 9223372036854775808) : bits .xor .i64 (a : Int) (b : Int) = ((a ^^^ b : Nat) : Int) := by
 show IntKind.i64.wrap ((BitVec.ofInt 64 (a : Int) ^^^ BitVec.ofInt 64 (b : Int)).toNat : Int) = _
 rw [BitVec.toNat_xor, BitVec.ofInt_natCast, BitVec.ofInt_natCast, BitVec.toNat_ofNat, BitVec.toNat_ofNat, Nat.mod_eq_of_lt (by omega), Nat.mod_eq_of_lt (by omega)]
 exact y6A _ (Nat.xor_lt_two_pow (n := 63) ha hb)
theorem y4Y (x y : Int) (hx0 : 0 ≤ x) (hx1 : x < 4294967296) (hy0 : 0 ≤ y) (hy1 : y < 4294967296) : 0 ≤ bits .xor .i64 x y ∧ bits .xor .i64 x y < 4294967296 := by
 obtain ⟨a, rfl⟩ := Int.eq_ofNat_of_zero_le hx0
 obtain ⟨b, rfl⟩ := Int.eq_ofNat_of_zero_le hy0
 rw [ynt a b (by omega) (by omega)]
 have := Nat.xor_lt_two_pow (n := 32) (x := a) (y := b) (by omega) (by omega)
 omega
def Y2 (l : List Int) : Prop := ∀ x ∈ l, 0 ≤ x ∧ x < 256
def by_ (l : List Int) (i : Int) : Int := l.getD i.toNat 0
theorem ydf {l : List Int} (h : Y2 l) (i : Int) : 0 ≤ by_ l i ∧ by_ l i < 256 := by
 unfold by_
 rw [List.getD_eq_getElem?_getD]
 cases hl : l[i.toNat]? with
 | none => simp
 | some x => exact h x (List.mem_of_getElem? hl)
def y6B (x : Int) : Int := if x % 2 = 1 then bits .xor .i64 (x / 2) 2197175160 else x / 2
def WM : Nat → Int → Int
 | 0, x => x
 | n + 1, x => WM n (y6B x)
def y1A (x b : Int) : Int := WM 8 (bits .xor .i64 x b)
def crc (l : List Int) : Int := bits .xor .i64 (l.foldl y1A 4294967295) 4294967295
theorem y0E (x : Int) (h0 : 0 ≤ x) (h1 : x < 4294967296) : 0 ≤ y6B x ∧ y6B x < 4294967296 := by
 unfold y6B
 split
 ·exact y4Y _ _ (by omega) (by omega) (by omega) (by omega)
 ·omega
theorem y26 : ∀ (n : Nat) (x : Int), 0 ≤ x → x < 4294967296 → 0 ≤ WM n x ∧ WM n x < 4294967296
 | 0, _, h0, h1 => ⟨h0, h1⟩
 | n + 1, x, h0, h1 => y26 n _ (y0E x h0 h1).1 (y0E x h0 h1).2
theorem y8S (x b : Int) (h0 : 0 ≤ x) (h1 : x < 4294967296) (hb0 : 0 ≤ b) (hb1 : b < 256) : 0 ≤ y1A x b ∧ y1A x b < 4294967296 := by
 have := y4Y x b h0 h1 hb0 (by omega)
 exact y26 8 _ this.1 this.2
end Go.Proofs.YtmapoakbdgpamaaGreat.Pl
namespace Go.Proofs.YtmapoakbdgpamaaGreat.Pl
open Go.Proofs.YtmapoakbdgpamaaGreat.R Go.Proofs.YtmapoakbdgpamaaGreat.XQ
theorem yac {T R : Type} {step : (T → Option R) → T → Option R} (μ : T → Nat) (inv : T → Prop) (Q : T → Option R → Prop)
  (h : ∀ again t, inv t → (∀ t', inv t' → μ t' < μ t → Q t' (again t')) → Q t (step again t)) (t : T) (ht : inv t) (hn : μ t < 18446744073709551616) : Q t (yS step z3 t) := by
 have key : ∀ (n : Nat) (t : T), inv t → μ t < n → Q t (yS step n t) := by
  intro n
  induction n with
  | zero => intro t _ hn; omega
  | succ n ih =>
   intro t ht hn
   rw [yS]
   exact h _ t ht fun t' ht' hlt => ih t' ht' (by omega)
 exact key z3 t ht (by rw [Ku]; exact hn)
theorem y8T {A : Type} (da : A) (l : List A) (i : Int) (h0 : 0 ≤ i) (h : i < l.length) : l.getD i.toNat da = l[i.toNat]'(by omega) := by
 rw [List.getD_eq_getElem?_getD, List.getElem?_eq_getElem (by omega)]
 rfl
theorem yN {A : Type} (da : A) (l : List A) (i : Int) (h0 : 0 ≤ i) (h : i < l.length) : l.getD i.toNat da ∈ l := by
 rw [y8T da l i h0 h]
 exact List.getElem_mem _
theorem Yo {A : Type} (da : A) (l : List A) (i : Int) (h0 : 0 ≤ i) (h : i < l.length) : l.drop i.toNat = l.getD i.toNat da :: l.drop (i + 1).toNat := by
 rw [y8T da l i h0 h, show (i + 1).toNat = i.toNat + 1 by omega, ← List.drop_eq_getElem_cons]
theorem WN {A R : Type} (da : A) {step : (List A × Int × List A → Option R) → List A × Int × List A → Option R} (k : List A → Option R) (l : List A) (hl : l.length ≤ 1099511627776)
  (h : ∀ again i o, 0 ≤ i → i < (l.length : Int) → o.length = l.length → step again (l, i, o) = again (l, i + 1, o.set i.toNat (l.getD i.toNat da)))
  (hd : ∀ again i o, ¬ i < (l.length : Int) → step again (l, i, o) = k o) (o : List A) (ho : o.length = l.length) : yS step z3 (l, 0, o) = k l := by
 rw [zU (fun t : List A × Int × List A => t.1.length - t.2.1.toNat) (fun t => t.1 = l ∧ 0 ≤ t.2.1 ∧ t.2.1 ≤ l.length ∧ t.2.2.length = l.length) (fun t => k (t.2.2.take t.2.1.toNat ++ l.drop t.2.1.toNat)) ?_ (l, 0, o) ⟨rfl, by simp, by simp, ho⟩ (by simp; omega)]
 ·simp
 ·rintro again ⟨l', i, o⟩ ⟨rfl, h0, h1, hlen⟩ hag
  simp only at h0 h1 hlen hl ⊢
  by_cases hi : i < (l'.length : Int)
  ·rw [h again i o h0 hi hlen, hag (l', i + 1, _) ⟨rfl, by simp only; omega, by simp only; omega, by simpa using hlen⟩ (by simp only; omega), Yo da l' i h0 hi]
   have e1 : (i + 1).toNat = i.toNat + 1 := by omega
   have hn : i.toNat < o.length := by omega
   simp only [e1]
   rw [List.take_succ_eq_append_getElem (by simpa using hn), List.take_set_of_le (Nat.le_refl _)]
   simp
  ·have : i.toNat = l'.length := by omega
   rw [hd again i o hi, List.drop_of_length_le (by omega), List.take_of_length_le (by omega)]
   simp
theorem Qe {A R : Type} {step : (List A × List A × Int → Option R) → List A × List A × Int → Option R} (k : Unit → Option R) (l : List A) (hl : l.length ≤ 1099511627776)
  (h : ∀ again i, 0 ≤ i → i < (l.length : Int) → step again (l, l, i) = again (l, l, i + 1))
  (hd : ∀ again i, ¬ i < (l.length : Int) → step again (l, l, i) = k ()) : yS step z3 (l, l, 0) = k () := by
 rw [zU (fun t : List A × List A × Int => t.1.length - t.2.2.toNat) (fun t => t.1 = l ∧ t.2.1 = l ∧ 0 ≤ t.2.2 ∧ t.2.2 ≤ l.length) (fun _ => k ()) ?_ (l, l, 0) ⟨rfl, rfl, by simp, by simp⟩ (by simp; omega)]
 rintro again ⟨a, b, i⟩ ⟨h1, h2, h0, h3⟩ hag
 simp only at h1 h2 h0 h3 ⊢
 subst h1 h2
 by_cases hi : i < (b.length : Int)
 ·rw [h again i h0 hi]
  exact hag (b, b, i + 1) ⟨rfl, rfl, by simp only; omega, by simp only; omega⟩ (by simp only; omega)
 ·exact hd again i hi
def z9 {A : Type} (w : A → Int) (l : List A) : Int := l.foldr (fun a s => w a + s) 0
theorem zm {A : Type} (w : A → Int) (a : A) (l : List A) : z9 w (a :: l) = w a + z9 w l := rfl
theorem y0R {A : Type} {w : A → Int} (hw : ∀ a, 0 ≤ w a) : ∀ {l : List A} {a : A}, a ∈ l → w a ≤ z9 w l ∧ 0 ≤ z9 w l
 | b :: l, a, h => by
  have hs : 0 ≤ z9 w l := by
   clear h
   induction l with
   | nil => exact Int.le_refl _
   | cons c l ih => rw [zm]; have := hw c; omega
  rw [zm]
  have := hw b
  rcases List.mem_cons.1 h with rfl | h
  ·omega
  ·have := (y0R hw h).1
   omega
theorem yI {A : Type} {w : A → Int} (hw : ∀ a, 0 ≤ w a) (l : List A) : 0 ≤ z9 w l := by
 induction l with
 | nil => exact Int.le_refl _
 | cons c l ih => rw [zm]; have := hw c; omega
def ybP (n w : Int) (o : Option Int) : Prop := ∃ r, o = some r ∧ (r < 0 ∨ (0 ≤ r ∧ r = n - w))
theorem y4Z {A R : Type} (da : A) (w : A → Int) (f : A → Int → Option Int) {step : (List A × Int × Int → Option R) → List A × Int × Int → Option R} (k0 : Int × Int → Option R) (k1 : Int → Option R) (l : List A) (hl : l.length ≤ 1099511627776)
  (hw : ∀ a, 0 ≤ w a) (hf : ∀ a ∈ l, ∀ n, 0 ≤ n → n ≤ 1048576 → ybP n (w a) (f a n))
  (h : ∀ again n i r, 0 ≤ i → i < (l.length : Int) → f (l.getD i.toNat da) n = some r → step again (l, n, i) = if r < 0 then k0 (r, -1) else again (l, r, i + 1))
  (hd : ∀ again n i, ¬ i < (l.length : Int) → step again (l, n, i) = k1 n) (n : Int) (hn0 : 0 ≤ n) (hn1 : n ≤ 1048576) :
  (∃ r, yS step z3 (l, n, 0) = k0 (r, -1)) ∨ (∃ r, 0 ≤ r ∧ r = n - z9 w l ∧ yS step z3 (l, n, 0) = k1 r) := by
 have key := yac (step := step) (fun t : List A × Int × Int => t.1.length - t.2.2.toNat) (fun t => t.1 = l ∧ 0 ≤ t.2.1 ∧ t.2.1 ≤ 1048576 ∧ 0 ≤ t.2.2 ∧ t.2.2 ≤ l.length)
  (fun t res => (∃ r, res = k0 (r, -1)) ∨ (∃ r, 0 ≤ r ∧ r = t.2.1 - z9 w (l.drop t.2.2.toNat) ∧ res = k1 r)) ?_ (l, n, 0) ⟨rfl, hn0, hn1, by simp, by simp⟩ (by simp; omega)
 ·simpa using key
 ·rintro again ⟨l', n, i⟩ ⟨rfl, a0, a1, h0, h1⟩ hag
  simp only at a0 a1 h0 h1 hl ⊢
  by_cases hi : i < (l'.length : Int)
  ·obtain ⟨r, hr, hc⟩ := hf _ (yN da l' i h0 hi) n a0 a1
   have := hw (l'.getD i.toNat da)
   rw [h again n i r h0 hi hr, Yo da l' i h0 hi, zm]
   rcases hc with hc | ⟨hc0, hc1⟩
   ·rw [if_pos hc]
    exact .inl ⟨r, rfl⟩
   ·rw [if_neg (by omega)]
    rcases hag (l', r, i + 1) ⟨rfl, hc0, by simp only; omega, by simp only; omega, by simp only; omega⟩ (by simp only; omega) with hh | ⟨r', q0, q1, q2⟩
    ·exact .inl hh
    ·exact .inr ⟨r', q0, by simp only at q1; omega, q2⟩
  ·rw [hd again n i hi, List.drop_of_length_le (by omega)]
   exact .inr ⟨n, a0, by simp [z9], rfl⟩
end Go.Proofs.YtmapoakbdgpamaaGreat.Pl
namespace Go.Proofs.YtmapoakbdgpamaaGreat.Pl
open Go.Proofs.YtmapoakbdgpamaaGreat.R Go.Proofs.YtmapoakbdgpamaaGreat.XQ
def yZ {A : Type} (mk : A → Int → A) (cnt : A → Int) : List A → Int → List A
 | [], _ => []
 | a :: l, k => mk a k :: yZ mk cnt l (k + cnt a)
theorem y2E {A : Type} (mk : A → Int → A) (cnt : A → Int) : ∀ (l : List A) (k : Int), (yZ mk cnt l k).length = l.length
 | [], _ => rfl
 | a :: l, k => by simp [yZ, y2E mk cnt l]
theorem WO {A R : Type} (da : A) (mk : A → Int → A) (cnt : A → Int) (hc : ∀ a, 0 ≤ cnt a) (P : A → Prop) {step : (Int × Int × List A → Option R) → Int × Int × List A → Option R} (k0 : Int × List A → Option R) (M : Int)
  (h : ∀ again k i l, 0 ≤ i → i < ((List.length l : Nat) : Int) → 0 ≤ k → k + cnt (l.getD i.toNat da) ≤ M → (List.length l : Int) ≤ 1099511627776 → P (l.getD i.toNat da) → step again (k, i, l) = again (k + cnt (l.getD i.toNat da), i + 1, l.set i.toNat (mk (l.getD i.toNat da) k)))
  (hd : ∀ again k i l, ¬ i < ((List.length l : Nat) : Int) → step again (k, i, l) = k0 (k, l))
  (l : List A) (k : Int) (hk : 0 ≤ k) (hl : l.length ≤ 1099511627776) (hM : k + z9 cnt l ≤ M) (hP : ∀ a ∈ l, P a) : yS step z3 (k, 0, l) = k0 (k + z9 cnt l, yZ mk cnt l k) := by
 rw [zU (fun t : Int × Int × List A => l.length - t.2.1.toNat) (fun t => 0 ≤ t.2.1 ∧ t.2.1 ≤ l.length ∧ t.2.2.length = l.length ∧ 0 ≤ t.1 ∧ t.1 + z9 cnt (t.2.2.drop t.2.1.toNat) ≤ M ∧ ∀ a ∈ t.2.2.drop t.2.1.toNat, P a) (fun t => k0 (t.1 + z9 cnt (t.2.2.drop t.2.1.toNat), t.2.2.take t.2.1.toNat ++ yZ mk cnt (t.2.2.drop t.2.1.toNat) t.1)) ?_ (k, 0, l) ⟨by simp, by simp, rfl, hk, by simpa using hM, by simpa using hP⟩ (by simp; omega)]
 ·simp
 ·rintro again ⟨k', i, o⟩ ⟨h1, h2, h3, h4, h5, h6⟩ hag
  simp only at h1 h2 h3 h4 h5 h6 ⊢
  by_cases hi : i < ((List.length o : Nat) : Int)
  ·have hn : i.toNat < o.length := by omega
   rw [Yo da o i h1 hi] at h5 h6 ⊢
   rw [zm] at h5 ⊢
   have hs := yI hc (o.drop (i + 1).toNat)
   have e1 : (i + 1).toNat = i.toNat + 1 := by omega
   have hd1 : (o.set i.toNat (mk (o.getD i.toNat da) k')).drop (i + 1).toNat = o.drop (i + 1).toNat := by
    rw [e1, List.drop_set_of_lt (by omega)]
   rw [h again k' i o h1 hi h4 (by omega) (by omega) (h6 _ (by simp)), hag (k' + cnt (o.getD i.toNat da), i + 1, o.set i.toNat (mk (o.getD i.toNat da) k')) ⟨by simp only; omega, by simp only; omega, by simpa using h3, by have := hc (o.getD i.toNat da); simp only; omega, by
    simp only [hd1]
    omega, by
    simp only [hd1]
    exact fun a ha => h6 a (by simp [ha])⟩ (by simp only; omega)]
   simp only [hd1]
   rw [e1, List.take_succ_eq_append_getElem (by simpa using hn), List.take_set_of_le (Nat.le_refl _)]
   simp [yZ, Int.add_assoc]
  ·rw [hd again k' i o hi, List.drop_of_length_le (by omega), List.take_of_length_le (by omega)]
   simp [z9, yZ]
theorem Vy {A R : Type} (da : A) (mk : A → Int → A) (cnt : A → Int) (hc : ∀ a, 0 ≤ cnt a) {step : (List A × Int × Int → Option R) → List A × Int × Int → Option R} (k1 : Int → Option R) (M : Int)
  (h : ∀ again l k i a, 0 ≤ i → i < ((List.length l : Nat) : Int) → 0 ≤ k → k + cnt a ≤ M → (List.length l : Int) ≤ 1099511627776 → l.getD i.toNat da = mk a k → step again (l, k, i) = again (l, k + cnt a, i + 1))
  (hd : ∀ again l k i, ¬ i < ((List.length l : Nat) : Int) → step again (l, k, i) = k1 k)
  (l : List A) (k : Int) (hk : 0 ≤ k) (hl : l.length ≤ 1099511627776) (hM : k + z9 cnt l ≤ M) : yS step z3 (yZ mk cnt l k, k, 0) = k1 (k + z9 cnt l) := by
 have hlen := y2E mk cnt l k
 rw [zU (fun t : List A × Int × Int => l.length - t.2.2.toNat) (fun t => t.1 = yZ mk cnt l k ∧ 0 ≤ t.2.2 ∧ t.2.2 ≤ l.length ∧ 0 ≤ t.2.1 ∧ ∃ r, t.1.drop t.2.2.toNat = yZ mk cnt r t.2.1 ∧ t.2.1 + z9 cnt r = k + z9 cnt l) (fun t => k1 (k + z9 cnt l)) ?_ (yZ mk cnt l k, k, 0) ⟨rfl, by simp, by simp, hk, l, by simp, rfl⟩ (by simp; omega)]
 rintro again ⟨o, k', i⟩ ⟨h1, h2, h3, h4, r, h5, h6⟩ hag
 simp only at h1 h2 h3 h4 h5 h6 ⊢
 subst h1
 by_cases hi : i < ((List.length (yZ mk cnt l k) : Nat) : Int)
 ·rw [Yo da _ i h2 hi] at h5
  cases r with
  | nil => simp [yZ] at h5
  | cons a r =>
   rw [yZ] at h5
   injection h5 with e1 e2
   rw [zm] at h6
   have hs := yI hc r
   rw [h again _ k' i a h2 hi h4 (by omega) (by omega) e1]
   exact hag _ ⟨rfl, by simp only; omega, by simp only; omega, by have := hc a; simp only; omega, r, e2, by simp only; omega⟩ (by simp only; omega)
 ·have hz : z9 cnt r = 0 := by
   rw [List.drop_of_length_le (by omega)] at h5
   cases r with
   | nil => rfl
   | cons a r => simp [yZ] at h5
  rw [hd again _ k' i hi, show k' = k + z9 cnt l by omega]
end Go.Proofs.YtmapoakbdgpamaaGreat.Pl
namespace Go.Proofs.YtmapoakbdgpamaaGreat.Pl
open Go.Proofs.YtmapoakbdgpamaaGreat.R Go.Proofs.YtmapoakbdgpamaaGreat.XQ
def mkB (k : Int) (n : Nat) : List Int := (List.range n).map fun (j : Nat) => Go.IntKind.wrap .u8 (k + (j : Int))
theorem ynu (k : Int) (n : Nat) : (mkB k n).length = n := by simp [mkB]
theorem yj3 (k : Int) (n : Nat) : mkB k (n + 1) = Go.IntKind.wrap .u8 k :: mkB (k + 1) n := by
 unfold mkB
 rw [List.range_succ_eq_map, List.map_cons, List.map_map]
 congr 1
 ·simp
 ·refine List.map_congr_left fun j _ => ?_
  simp only [Function.comp]
  congr 1
  omega
theorem ynv (k : Int) (n j : Nat) (h : j < n) : (mkB k n).getD j 0 = Go.IntKind.wrap .u8 (k + j) := by
 unfold mkB
 rw [List.getD_eq_getElem?_getD, List.getElem?_map, List.getElem?_range h]
 rfl
theorem y3b (l : List Int) (k : Int) (h0 : 0 ≤ k) (hk : k ≤ 1099511627776) (hl : l.length ≤ 1099511627776) : zz (l, k) = some (k + l.length, mkB k l.length) := by
 unfold zz VS
 rw [zU (fun t : Int × Int × List Int => l.length - t.2.1.toNat) (fun t => t.1 = k + t.2.1 ∧ 0 ≤ t.2.1 ∧ t.2.1 ≤ l.length ∧ t.2.2.length = l.length) (fun t => some (k + l.length, t.2.2.take t.2.1.toNat ++ mkB t.1 (l.length - t.2.1.toNat))) ?_ (k, 0, l) ⟨by simp, by simp, by simp, rfl⟩ (by simp; omega)]
 ·simp
 ·rintro again ⟨k', i, o⟩ ⟨h1, h2, h3, h4⟩ hag
  simp only at h1 h2 h3 h4 ⊢
  subst h1
  unfold wY
  simp only [Bool.cond_eq_ite, decide_eq_true_eq]
  by_cases hi : i < (List.length o : Int)
  ·have hn : i.toNat < o.length := by omega
   rw [if_pos hi, if_pos h2, if_pos hi, w64 (n := i + 1) (by omega) (by omega), w64 (n := k + i + 1) (by omega) (by omega), hag (k + i + 1, i + 1, o.set i.toNat (Go.IntKind.wrap .u8 (k + i))) ⟨by simp only; omega, by simp only; omega, by simp only; omega, by simpa using h4⟩ (by simp only; omega)]
   simp only
   have e1 : (i + 1).toNat = i.toNat + 1 := by omega
   rw [e1, List.take_succ_eq_append_getElem (by simpa using hn), List.take_set_of_le (Nat.le_refl _), show l.length - i.toNat = (l.length - (i.toNat + 1)) + 1 by omega, yj3]
   simp
  ·rw [if_neg hi]
   have e1 : i.toNat = o.length := by omega
   have e2 : i = (l.length : Int) := by omega
   rw [List.take_of_length_le (by omega), show l.length - i.toNat = 0 by omega, e2]
   simp [mkB]
theorem y3c (k : Int) (n : Nat) (h0 : 0 ≤ k) (hk : k ≤ 1099511627776) (hl : n ≤ 1099511627776) : zA (mkB k n, k) = some (k + n) := by
 unfold zA VW
 rw [zU (fun t : List Int × Int × Int => n - t.2.2.toNat) (fun t => t.1 = mkB k n ∧ t.2.1 = k + t.2.2 ∧ 0 ≤ t.2.2 ∧ t.2.2 ≤ n) (fun t => some (k + n)) ?_ (mkB k n, k, 0) ⟨rfl, by simp, by simp, by simp⟩ (by simp; omega)]
 rintro again ⟨o, k', i⟩ ⟨h1, h2, h3, h4⟩ hag
 simp only at h1 h2 h3 h4 ⊢
 subst h1 h2
 unfold W4
 simp only [Bool.cond_eq_ite, decide_eq_true_eq]
 have hlen : ((List.length (mkB k n) : Nat) : Int) = n := by rw [ynu]
 by_cases hi : i < (n : Int)
 ·have hget : ya6 (mkB k n) i = Go.IntKind.wrap .u8 (k + i) := by
   show (mkB k n).getD i.toNat 0 = _
   rw [ynv k n i.toNat (by omega), show ((i.toNat : Nat) : Int) = i by omega]
  rw [hlen, if_pos hi, if_pos h3, if_pos hi, hget, if_neg (by simp), w64 (n := i + 1) (by omega) (by omega), w64 (n := k + i + 1) (by omega) (by omega), hag (mkB k n, k + i + 1, i + 1) ⟨rfl, by simp only; omega, by simp only; omega, by simp only; omega⟩ (by simp only; omega)]
 ·rw [hlen, if_neg hi]
  congr 1
  omega
def wd : Int := 549755813888
theorem y6C {A : Type} (da : A) (l : List A) (i : Int) (v : A) (h0 : 0 ≤ i) (h1 : i < (List.length l : Int)) : (l.set i.toNat v).getD i.toNat da = v := by
 rw [List.getD_eq_getElem?_getD, List.getElem?_set_self (by omega)]
 rfl
theorem y8U (x : Int) (h0 : 0 ≤ x) (h1 : x ≤ 1099511627776) : ∃ r, zO x = some r := by
 unfold zO qJ
 cases hx : decide (x ≤ 0) with
 | true => exact ⟨_, rfl⟩
 | false =>
  rw [cond_false]
  refine yac (step := Ja _) (fun t : Int × ByteArray => t.1.toNat) (fun t => 0 ≤ t.1 ∧ t.1 + (ByteArray.size t.2 : Int) ≤ 1099511627776) (fun _ o => ∃ r, o = some r) ?_ (x, { data := #[] }) ⟨h0, by
   show x + ((ByteArray.size { data := #[] } : Nat) : Int) ≤ _
   rw [show ByteArray.size { data := #[] } = 0 from rfl]
   omega⟩ (by simp only; omega)
  rintro again ⟨y, t⟩ ⟨a0, a1⟩ hag
  simp only at a0 a1 hag
  unfold Ja
  simp only []
  by_cases hy : y > 0
  ·have ht : Int.tdiv y 10 = y / 10 := Int.tdiv_eq_ediv_of_nonneg a0
   have hsz : ByteArray.size (y2O ([(Go.IntKind.wrap .u8 (Go.IntKind.wrap .i64 ((48 : Int) + (Int.tmod y (10 : Int)))))] : List z0)) = 1 := rfl
   rw [decide_eq_true hy, cond_true, if_pos (by rw [hsz]; omega), ht, w64 (n := y / 10) (by omega) (by omega)]
   refine hag (y / 10, _) ⟨by simp only; omega, ?_⟩ (by simp only; omega)
   simp only
   rw [show ByteArray.size (y2O ([(Go.IntKind.wrap .u8 (Go.IntKind.wrap .i64 ((48 : Int) + (Int.tmod y (10 : Int)))))] : List z0) ++ t) = 1 + t.size from by rw [ByteArray.size_append]; rfl]
   omega
  ·rw [decide_eq_false hy, cond_false, if_pos (by
    rw [show ByteArray.size { data := #[109] } = 1 from rfl]
    omega)]
   exact ⟨_, rfl⟩
noncomputable def mt (k : Int) : ByteArray := (zO k).getD ⟨#[]⟩
theorem y50 (x : Int) (h0 : 0 ≤ x) (h1 : x ≤ 1099511627776) : zO x = some (mt x) := by
 obtain ⟨r, hr⟩ := y8U x h0 h1
 unfold mt
 rw [hr]
 rfl
theorem qe (k : Int) (h0 : 0 ≤ k) (h1 : k ≤ 1099511627776) : Go.IntKind.wrap .i64 (k + 1) = k + 1 := w64 (by omega) (by omega)
end Go.Proofs.YtmapoakbdgpamaaGreat.Pl
namespace Go.Proofs.YtmapoakbdgpamaaGreat.Pl
open Go.Proofs.YtmapoakbdgpamaaGreat.R Go.Proofs.YtmapoakbdgpamaaGreat.XQ
theorem ZH (x a b : Int) : yr (x, a, b) = some (inR x a b) := by
 unfold yr inR
 by_cases h : x ≥ a <;> simp [h]
theorem zV (x a b : Int) : yd (x, a, b) = some (inR x a b) := by
 unfold yd inR
 by_cases h : x ≥ a <;> simp [h]
theorem bi (x y : Int) : ((x == y) = true) = (x = y) := by simp
end Go.Proofs.YtmapoakbdgpamaaGreat.Pl
namespace Go.Proofs.YtmapoakbdgpamaaGreat.Pl
open Go.Proofs.YtmapoakbdgpamaaGreat.R Go.Proofs.YtmapoakbdgpamaaGreat.XQ
theorem ygp (l : List yp) (hl : l.length ≤ 1048576) : W7 l = some l := by
 unfold W7 y0c
 rw [if_pos (by omega), if_pos (Int.le_refl _), if_pos (by omega)]
 refine WN yfs (fun x => some x) l (by omega) ?_ ?_ _ (by simp)
 ·intro again i o h0 h1 h2
  unfold W6
  have hw : Go.IntKind.wrap .i64 (i + 1) = i + 1 := w64 (by omega) (by omega)
  have h3 : i < (o.length : Int) := by omega
  simp only [Bool.cond_eq_ite, decide_eq_true_eq, h0, h1, h3, if_true, hw, if_true, Option.bind_some]
  rfl
 ·intro again i o hi
  unfold W6
  simp only [Bool.cond_eq_ite, decide_eq_true_eq, if_neg hi]
theorem ygq (l : List y8) (hl : l.length ≤ 1048576) : ZD l = some l := by
 unfold ZD y0d
 rw [if_pos (by omega), if_pos (Int.le_refl _), if_pos (by omega)]
 refine WN zv (fun x => some x) l (by omega) ?_ ?_ _ (by simp)
 ·intro again i o h0 h1 h2
  unfold W8
  have hw : Go.IntKind.wrap .i64 (i + 1) = i + 1 := w64 (by omega) (by omega)
  have h3 : i < (o.length : Int) := by omega
  simp only [Bool.cond_eq_ite, decide_eq_true_eq, h0, h1, h3, if_true, hw, VX, Option.bind_some]
  rfl
 ·intro again i o hi
  unfold W8
  simp only [Bool.cond_eq_ite, decide_eq_true_eq, if_neg hi]
theorem ygr (l : List yo) (hl : l.length ≤ 1048576) : Wa l = some l := by
 unfold Wa y0e
 rw [if_pos (by omega), if_pos (Int.le_refl _), if_pos (by omega)]
 refine WN WU (fun x => some x) l (by omega) ?_ ?_ _ (by simp)
 ·intro again i o h0 h1 h2
  unfold W9
  have hw : Go.IntKind.wrap .i64 (i + 1) = i + 1 := w64 (by omega) (by omega)
  have h3 : i < (o.length : Int) := by omega
  simp only [Bool.cond_eq_ite, decide_eq_true_eq, h0, h1, h3, if_true, hw, VY, Option.bind_some]
  rfl
 ·intro again i o hi
  unfold W9
  simp only [Bool.cond_eq_ite, decide_eq_true_eq, if_neg hi]
theorem yef (l : List yb) (hl : l.length ≤ 1048576) : Jy l = some l := by
 unfold Jy Qz
 rw [if_pos (by omega), if_pos (Int.le_refl _), if_pos (by omega)]
 refine WN wI (fun x => some x) l (by omega) ?_ ?_ _ (by simp)
 ·intro again i o h0 h1 h2
  unfold w9
  have hw : Go.IntKind.wrap .i64 (i + 1) = i + 1 := w64 (by omega) (by omega)
  have h3 : i < (o.length : Int) := by omega
  simp only [Bool.cond_eq_ite, decide_eq_true_eq, h0, h1, h3, if_true, hw, vp, Option.bind_some]
  rfl
 ·intro again i o hi
  unfold w9
  simp only [Bool.cond_eq_ite, decide_eq_true_eq, if_neg hi]
theorem ygs (l : List yA) (hl : l.length ≤ 1048576) : Wc l = some l := by
 unfold Wc y0f
 rw [if_pos (by omega), if_pos (Int.le_refl _), if_pos (by omega)]
 refine WN qg (fun x => some x) l (by omega) ?_ ?_ _ (by simp)
 ·intro again i o h0 h1 h2
  unfold Wb
  have hw : Go.IntKind.wrap .i64 (i + 1) = i + 1 := w64 (by omega) (by omega)
  have h3 : i < (o.length : Int) := by omega
  simp only [Bool.cond_eq_ite, decide_eq_true_eq, h0, h1, h3, if_true, hw, VZ, Option.bind_some]
  rfl
 ·intro again i o hi
  unfold Wb
  simp only [Bool.cond_eq_ite, decide_eq_true_eq, if_neg hi]
theorem yeg (l : List y9) (hl : l.length ≤ 1048576) (hm : ∀ a ∈ l, ZD a = some a) : Jx l = some l := by
 unfold Jx Qx
 rw [if_pos (by omega), if_pos (Int.le_refl _), if_pos (by omega)]
 refine WN yT (fun x => some x) l (by omega) ?_ ?_ _ (by simp)
 ·intro again i o h0 h1 h2
  unfold w7
  have hw : Go.IntKind.wrap .i64 (i + 1) = i + 1 := w64 (by omega) (by omega)
  have h3 : i < (o.length : Int) := by omega
  have e : ZD (y04 l i) = some (y04 l i) := hm _ (yN yT l i h0 h1)
  simp only [Bool.cond_eq_ite, decide_eq_true_eq, h0, h1, h3, if_true, hw, e, Option.bind_some]
  rfl
 ·intro again i o hi
  unfold w7
  simp only [Bool.cond_eq_ite, decide_eq_true_eq, if_neg hi]
theorem yeh (l : List y7) (hl : l.length ≤ 1048576) (hm : ∀ a ∈ l, Jc a = some a) : j9 l = some l := by
 unfold j9 Qy
 rw [if_pos (by omega), if_pos (Int.le_refl _), if_pos (by omega)]
 refine WN zg (fun x => some x) l (by omega) ?_ ?_ _ (by simp)
 ·intro again i o h0 h1 h2
  unfold w8
  have hw : Go.IntKind.wrap .i64 (i + 1) = i + 1 := w64 (by omega) (by omega)
  have h3 : i < (o.length : Int) := by omega
  have e : Jc (y21 l i) = some (y21 l i) := hm _ (yN zg l i h0 h1)
  simp only [Bool.cond_eq_ite, decide_eq_true_eq, h0, h1, h3, if_true, hw, e, Option.bind_some]
  rfl
 ·intro again i o hi
  unfold w8
  simp only [Bool.cond_eq_ite, decide_eq_true_eq, if_neg hi]
theorem ybQ (l : List yp) (hl : l.length ≤ 1048576) : wM (l, l) = some true := by
 unfold wM y07
 simp only [bne_self_eq_false, cond_false]
 refine Qe (fun _ => some true) l (by omega) ?_ ?_
 ·intro again i h0 h1
  unfold wL
  have hw : Go.IntKind.wrap .i64 (i + 1) = i + 1 := w64 (by omega) (by omega)
  simp only [Bool.cond_eq_ite, decide_eq_true_eq, h0, h1, if_true, hw, if_true, Option.bind_some, bne_self_eq_false, beq_self_eq_true, Bool.not_true, Bool.false_eq_true, if_false]
 ·intro again i hi
  unfold wL
  simp only [Bool.cond_eq_ite, decide_eq_true_eq, if_neg hi]
theorem ybR (l : List y8) (hl : l.length ≤ 1048576) : Zy (l, l) = some true := by
 unfold Zy y08
 simp only [bne_self_eq_false, cond_false]
 refine Qe (fun _ => some true) l (by omega) ?_ ?_
 ·intro again i h0 h1
  unfold wN
  have hw : Go.IntKind.wrap .i64 (i + 1) = i + 1 := w64 (by omega) (by omega)
  simp only [Bool.cond_eq_ite, decide_eq_true_eq, h0, h1, if_true, hw, VM, Option.bind_some, bne_self_eq_false, beq_self_eq_true, Bool.not_true, Bool.false_eq_true, if_false]
 ·intro again i hi
  unfold wN
  simp only [Bool.cond_eq_ite, decide_eq_true_eq, if_neg hi]
theorem ybS (l : List yo) (hl : l.length ≤ 1048576) : wP (l, l) = some true := by
 unfold wP y09
 simp only [bne_self_eq_false, cond_false]
 refine Qe (fun _ => some true) l (by omega) ?_ ?_
 ·intro again i h0 h1
  unfold wO
  have hw : Go.IntKind.wrap .i64 (i + 1) = i + 1 := w64 (by omega) (by omega)
  simp only [Bool.cond_eq_ite, decide_eq_true_eq, h0, h1, if_true, hw, VN, Option.bind_some, bne_self_eq_false, beq_self_eq_true, Bool.not_true, Bool.false_eq_true, if_false]
 ·intro again i hi
  unfold wO
  simp only [Bool.cond_eq_ite, decide_eq_true_eq, if_neg hi]
theorem yad (l : List yb) (hl : l.length ≤ 1048576) : Jp (l, l) = some true := by
 unfold Jp Qr
 simp only [bne_self_eq_false, cond_false]
 refine Qe (fun _ => some true) l (by omega) ?_ ?_
 ·intro again i h0 h1
  unfold JX
  have hw : Go.IntKind.wrap .i64 (i + 1) = i + 1 := w64 (by omega) (by omega)
  simp only [Bool.cond_eq_ite, decide_eq_true_eq, h0, h1, if_true, hw, vk, Option.bind_some, bne_self_eq_false, beq_self_eq_true, Bool.not_true, Bool.false_eq_true, if_false]
 ·intro again i hi
  unfold JX
  simp only [Bool.cond_eq_ite, decide_eq_true_eq, if_neg hi]
theorem ybT (l : List yA) (hl : l.length ≤ 1048576) : wR (l, l) = some true := by
 unfold wR y0a
 simp only [bne_self_eq_false, cond_false]
 refine Qe (fun _ => some true) l (by omega) ?_ ?_
 ·intro again i h0 h1
  unfold wQ
  have hw : Go.IntKind.wrap .i64 (i + 1) = i + 1 := w64 (by omega) (by omega)
  simp only [Bool.cond_eq_ite, decide_eq_true_eq, h0, h1, if_true, hw, VO, Option.bind_some, bne_self_eq_false, beq_self_eq_true, Bool.not_true, Bool.false_eq_true, if_false]
 ·intro again i hi
  unfold wQ
  simp only [Bool.cond_eq_ite, decide_eq_true_eq, if_neg hi]
theorem yae (l : List y9) (hl : l.length ≤ 1048576) (hm : ∀ a ∈ l, Zy (a, a) = some true) : Jo (l, l) = some true := by
 unfold Jo Qp
 simp only [bne_self_eq_false, cond_false]
 refine Qe (fun _ => some true) l (by omega) ?_ ?_
 ·intro again i h0 h1
  unfold JV
  have hw : Go.IntKind.wrap .i64 (i + 1) = i + 1 := w64 (by omega) (by omega)
  have e : Zy (yh l i, yh l i) = some true := hm _ (yN yT l i h0 h1)
  simp only [Bool.cond_eq_ite, decide_eq_true_eq, h0, h1, if_true, hw, e, Option.bind_some, bne_self_eq_false, beq_self_eq_true, Bool.not_true, Bool.false_eq_true, if_false]
 ·intro again i hi
  unfold JV
  simp only [Bool.cond_eq_ite, decide_eq_true_eq, if_neg hi]
theorem yaf (l : List y7) (hl : l.length ≤ 1048576) (hm : ∀ a ∈ l, J8 (a, a) = some true) : j7 (l, l) = some true := by
 unfold j7 Qq
 simp only [bne_self_eq_false, cond_false]
 refine Qe (fun _ => some true) l (by omega) ?_ ?_
 ·intro again i h0 h1
  unfold JW
  have hw : Go.IntKind.wrap .i64 (i + 1) = i + 1 := w64 (by omega) (by omega)
  have e : J8 (ym l i, ym l i) = some true := hm _ (yN zg l i h0 h1)
  simp only [Bool.cond_eq_ite, decide_eq_true_eq, h0, h1, if_true, hw, e, Option.bind_some, bne_self_eq_false, beq_self_eq_true, Bool.not_true, Bool.false_eq_true, if_false]
 ·intro again i hi
  unfold JW
  simp only [Bool.cond_eq_ite, decide_eq_true_eq, if_neg hi]
theorem y2F (n : Int) (m : Nat) (hn0 : 0 ≤ n) (hn1 : n ≤ 1048576) (hm : m ≤ maxLen) : ybP n m (bif decide (Go.IntKind.wrap .i64 (n - ((m : Nat) : Int)) < (0 : Int)) then some (-1 : Int) else some (Go.IntKind.wrap .i64 (n - ((m : Nat) : Int)))) := by
 simp only [maxLen] at hm
 rw [w64 (n := n - m) (by omega) (by omega)]
 simp only [Bool.cond_eq_ite, decide_eq_true_eq]
 by_cases h : n - m < 0
 ·rw [if_pos h]
  exact ⟨-1, rfl, .inl (by omega)⟩
 ·rw [if_neg h]
  exact ⟨_, rfl, .inr ⟨by omega, rfl⟩⟩
theorem ygt (l : List yp) (hl : l.length ≤ maxLen) (n : Int) (hn0 : 0 ≤ n) (hn1 : n ≤ 1048576) : ybP n (l.length : Nat) (vm (l, n)) := y2F n l.length hn0 hn1 hl
theorem ygu (l : List y37) (hl : l.length ≤ maxLen) (n : Int) (hn0 : 0 ≤ n) (hn1 : n ≤ 1048576) : ybP n (l.length : Nat) (ZB (l, n)) := y2F n l.length hn0 hn1 hl
theorem ygv (l : List WV) (hl : l.length ≤ maxLen) (n : Int) (hn0 : 0 ≤ n) (hn1 : n ≤ 1048576) : ybP n (l.length : Nat) (vn (l, n)) := y2F n l.length hn0 hn1 hl
theorem yei (l : List je) (hl : l.length ≤ maxLen) (n : Int) (hn0 : 0 ≤ n) (hn1 : n ≤ 1048576) : ybP n (l.length : Nat) (Jv (l, n)) := y2F n l.length hn0 hn1 hl
theorem yej (l : List z4) (hl : l.length ≤ maxLen) (hm : ∀ a ∈ l, List.length a ≤ maxLen) (n : Int) (hn0 : 0 ≤ n) (hn1 : n ≤ 1048576) : ybP n ((l.length : Int) + z9 (fun a : z4 => (List.length a : Int)) l) (Ju (l, n)) := by
 simp only [maxLen] at hl
 unfold Ju Qv
 simp only [Bool.cond_eq_ite, decide_eq_true_eq]
 rw [w64 (n := n - l.length) (by omega) (by omega)]
 by_cases h : n - (l.length : Int) < 0
 ·rw [if_pos h]
  exact ⟨-1, rfl, .inl (by omega)⟩
 ·rw [if_neg h]
  have hs : ∀ again (n i r : Int), 0 ≤ i → i < (l.length : Int) → ZB (l.getD i.toNat ycP, n) = some r → zZ (fun x2 => some x2.2) (fun x3 => some x3) again (l, n, i) = if r < 0 then some (-1 : Int) else again (l, r, i + 1) := by
   intro again n i r h0 h1 hr
   unfold zZ
   have hw : Go.IntKind.wrap .i64 (i + 1) = i + 1 := w64 (by omega) (by omega)
   have hr' : ZB ((y04 l i), n) = some r := hr
   simp only [Bool.cond_eq_ite, decide_eq_true_eq, h0, h1, if_true, hw, hr', Option.bind_some]
  have hd : ∀ again (n i : Int), ¬ i < (l.length : Int) → zZ (fun x2 => some x2.2) (fun x3 => some x3) again (l, n, i) = some n := by
   intro again n i hi
   unfold zZ
   simp only [Bool.cond_eq_ite, decide_eq_true_eq, if_neg hi]
  rcases y4Z ycP (fun a : z4 => (List.length a : Int)) (fun a n => ZB (a, n)) (step := zZ (fun x2 => some x2.2) (fun x3 => some x3)) (fun x2 => some x2.2) (fun x3 => some x3) l (by omega) (fun a => by exact Int.natCast_nonneg _) (fun a ha n h0 h1 => ygu a (hm a ha) n h0 h1) hs hd (n - l.length) (by omega) (by omega) with ⟨r, e⟩ | ⟨r, r0, r1, e⟩
  ·rw [e]
   exact ⟨-1, rfl, .inl (by omega)⟩
  ·rw [e]
   exact ⟨r, rfl, .inr ⟨r0, by omega⟩⟩
def vv (l : List z4) : Int := (List.length l : Int) + z9 (fun a : z4 => (List.length a : Int)) l
theorem J3 (l : List z4) : 0 ≤ vv l := by
 have := yI (w := fun a : z4 => (List.length a : Int)) (fun a => Int.natCast_nonneg _) l
 unfold vv
 omega
theorem ygw (l : List z4) (hl : l.length ≤ maxLen) (hm : ∀ a ∈ l, List.length a ≤ maxLen) (n : Int) (hn0 : 0 ≤ n) (hn1 : n ≤ 1048576) : ybP n (vv l) (YC (l, n)) := by
 obtain ⟨r, hr, hc⟩ := yej l hl hm n hn0 hn1
 unfold YC
 simp only [hr, Option.bind_some, Bool.cond_eq_ite, decide_eq_true_eq]
 rcases hc with hc | ⟨h0, h1⟩
 ·rw [if_pos hc]
  exact ⟨-1, rfl, .inl (by omega)⟩
 ·rw [if_neg (by omega)]
  exact ⟨r, rfl, .inr ⟨h0, h1⟩⟩
theorem yek (l : List zF) (hl : l.length ≤ maxLen) (hm : ∀ a ∈ l, List.length a ≤ maxLen ∧ ∀ b ∈ (show List z4 from a), List.length b ≤ maxLen) (n : Int) (hn0 : 0 ≤ n) (hn1 : n ≤ 1048576) : ybP n ((l.length : Int) + z9 (vv) l) (j8 (l, n)) := by
 simp only [maxLen] at hl
 unfold j8 Qw
 simp only [Bool.cond_eq_ite, decide_eq_true_eq]
 rw [w64 (n := n - l.length) (by omega) (by omega)]
 by_cases h : n - (l.length : Int) < 0
 ·rw [if_pos h]
  exact ⟨-1, rfl, .inl (by omega)⟩
 ·rw [if_neg h]
  have hs : ∀ again (n i r : Int), 0 ≤ i → i < (l.length : Int) → YC (l.getD i.toNat yft, n) = some r → Y0 (fun x2 => some x2.2) (fun x3 => some x3) again (l, n, i) = if r < 0 then some (-1 : Int) else again (l, r, i + 1) := by
   intro again n i r h0 h1 hr
   unfold Y0
   have hw : Go.IntKind.wrap .i64 (i + 1) = i + 1 := w64 (by omega) (by omega)
   have hr' : YC ((y21 l i), n) = some r := hr
   simp only [Bool.cond_eq_ite, decide_eq_true_eq, h0, h1, if_true, hw, hr', Option.bind_some]
  have hd : ∀ again (n i : Int), ¬ i < (l.length : Int) → Y0 (fun x2 => some x2.2) (fun x3 => some x3) again (l, n, i) = some n := by
   intro again n i hi
   unfold Y0
   simp only [Bool.cond_eq_ite, decide_eq_true_eq, if_neg hi]
  rcases y4Z yft (vv) (fun a n => YC (a, n)) (step := Y0 (fun x2 => some x2.2) (fun x3 => some x3)) (fun x2 => some x2.2) (fun x3 => some x3) l (by omega) (fun a => by exact J3 a) (fun a ha n h0 h1 => ygw a (hm a ha).1 (hm a ha).2 n h0 h1) hs hd (n - l.length) (by omega) (by omega) with ⟨r, e⟩ | ⟨r, r0, r1, e⟩
  ·rw [e]
   exact ⟨-1, rfl, .inl (by omega)⟩
  ·rw [e]
   exact ⟨r, rfl, .inr ⟨r0, by omega⟩⟩
theorem ygx (l : List jw) (hl : l.length ≤ maxLen) (hm : ∀ a ∈ l, ByteArray.size a.1 ≤ maxLen) (n : Int) (hn0 : 0 ≤ n) (hn1 : n ≤ 1048576) : ybP n ((l.length : Int) + z9 (fun a : jw => (ByteArray.size a.1 : Int)) l) (ZC (l, n)) := by
 simp only [maxLen] at hl
 unfold ZC y0b
 simp only [Bool.cond_eq_ite, decide_eq_true_eq]
 rw [w64 (n := n - l.length) (by omega) (by omega)]
 by_cases h : n - (l.length : Int) < 0
 ·rw [if_pos h]
  exact ⟨-1, rfl, .inl (by omega)⟩
 ·rw [if_neg h]
  have hs : ∀ again (n i r : Int), 0 ≤ i → i < (l.length : Int) → wx ((l.getD i.toNat ya5).1, (l.getD i.toNat ya5).2.1, (l.getD i.toNat ya5).2.2.1, (l.getD i.toNat ya5).2.2.2, n) = some r → Yg (fun x2 => some x2.2) (fun x3 => some x3) again (l, n, i) = if r < 0 then some (-1 : Int) else again (l, r, i + 1) := by
   intro again n i r h0 h1 hr
   unfold Yg
   have hw : Go.IntKind.wrap .i64 (i + 1) = i + 1 := w64 (by omega) (by omega)
   have hr' : wx ((Kv l i).1, (Kv l i).2.1, (Kv l i).2.2.1, (Kv l i).2.2.2, n) = some r := hr
   simp only [Bool.cond_eq_ite, decide_eq_true_eq, h0, h1, if_true, hw, hr', Option.bind_some]
  have hd : ∀ again (n i : Int), ¬ i < (l.length : Int) → Yg (fun x2 => some x2.2) (fun x3 => some x3) again (l, n, i) = some n := by
   intro again n i hi
   unfold Yg
   simp only [Bool.cond_eq_ite, decide_eq_true_eq, if_neg hi]
  rcases y4Z ya5 (fun a : jw => (ByteArray.size a.1 : Int)) (fun a n => wx (a.1, a.2.1, a.2.2.1, a.2.2.2, n)) (step := Yg (fun x2 => some x2.2) (fun x3 => some x3)) (fun x2 => some x2.2) (fun x3 => some x3) l (by omega) (fun a => by exact Int.natCast_nonneg _) (fun a ha n h0 h1 => y2F n (ByteArray.size a.1) h0 h1 (hm a ha)) hs hd (n - l.length) (by omega) (by omega) with ⟨r, e⟩ | ⟨r, r0, r1, e⟩
  ·rw [e]
   exact ⟨-1, rfl, .inl (by omega)⟩
  ·rw [e]
   exact ⟨r, rfl, .inr ⟨r0, by omega⟩⟩
end Go.Proofs.YtmapoakbdgpamaaGreat.Pl
namespace Go.Proofs.YtmapoakbdgpamaaGreat.Pl
open Go.Proofs.YtmapoakbdgpamaaGreat.R Go.Proofs.YtmapoakbdgpamaaGreat.XQ
theorem Yp {T A S R : Type} {step : (T → Option R) → T → Option R} (mk : Int → S → T) (k : S → Option R) (da : A) (g : S → A → S) (l : List A) (hl : l.length ≤ 1099511627776) (I : Nat → S → Prop)
  (h : ∀ again i s, 0 ≤ i → i < (l.length : Int) → I i.toNat s → step again (mk i s) = again (mk (i + 1) (g s (l.getD i.toNat da))) ∧ I (i.toNat + 1) (g s (l.getD i.toNat da)))
  (hd : ∀ again i s, ¬ i < (l.length : Int) → step again (mk i s) = k s) (s : S) (hs : I 0 s) : yS step z3 (mk 0 s) = k (l.foldl g s) := by
 have key : ∀ (n : Nat) (i : Int) (s : S), 0 ≤ i → i ≤ l.length → I i.toNat s → l.length - i.toNat < n → yS step n (mk i s) = k ((l.drop i.toNat).foldl g s) := by
  intro n
  induction n with
  | zero => intro i s _ _ _ hn; omega
  | succ n ih =>
   intro i s h0 h1 hI hn
   rw [yS]
   by_cases hi : i < (l.length : Int)
   ·obtain ⟨e, hI'⟩ := h (yS step n) i s h0 hi hI
    have e1 : (i + 1).toNat = i.toNat + 1 := by omega
    rw [e, ih (i + 1) _ (by omega) (by omega) (by rw [e1]; exact hI') (by omega), Yo da l i h0 hi]
    rfl
   ·rw [hd _ i s hi, List.drop_of_length_le (by omega)]
    rfl
 have := key z3 0 s (by omega) (by omega) hs (by rw [Ku]; simp; omega)
 simpa using this
def y27 (c k : y8) : Bool := if c.1 < k.1 then true else if c.1 = k.1 then decide (c.2.1 < k.2.1) else false
def y8V (c k : y8) : Bool := decide (c.1 = k.1) && decide (c.2.1 = k.2.1)
theorem y0F (a1 a2 a3 a4 a5 b1 b2 b3 b4 b5 : Int) : ja (a1, a2, a3, a4, a5, b1, b2, b3, b4, b5) = some (y27 (a1, a2, a3, a4, a5) (b1, b2, b3, b4, b5)) := by
 unfold ja y27
 by_cases h : a1 = b1
 ·subst h
  simp
 ·have hb : (a1 == b1) = false := by simpa using h
  have hb' : (a1 != b1) = true := by simpa using h
  by_cases h2 : a1 < b1 <;> simp [h, h2, hb, hb']
theorem y0G (a1 a2 a3 a4 a5 b1 b2 b3 b4 b5 : Int) : jc (a1, a2, a3, a4, a5, b1, b2, b3, b4, b5) = some (y27 (a1, a2, a3, a4, a5) (b1, b2, b3, b4, b5)) := by
 unfold jc y27
 by_cases h : a1 = b1
 ·subst h
  simp
 ·have hb : (a1 == b1) = false := by simpa using h
  have hb' : (a1 != b1) = true := by simpa using h
  by_cases h2 : a1 < b1 <;> simp [h, h2, hb, hb']
theorem y3p (a1 a2 a3 a4 a5 b1 b2 b3 b4 b5 : Int) : YY (a1, a2, a3, a4, a5, b1, b2, b3, b4, b5) = some (y8V (a1, a2, a3, a4, a5) (b1, b2, b3, b4, b5)) := by
 unfold YY y8V
 have e1 : (a1 == b1) = decide (a1 = b1) := rfl
 have e2 : (a2 == b2) = decide (a2 = b2) := rfl
 simp only [e1, e2]
 cases decide (a1 = b1) <;> cases decide (a2 = b2) <;> rfl
theorem y3q (a1 a2 a3 a4 a5 b1 b2 b3 b4 b5 : Int) : Z9 (a1, a2, a3, a4, a5, b1, b2, b3, b4, b5) = some (y8V (a1, a2, a3, a4, a5) (b1, b2, b3, b4, b5)) := by
 unfold Z9 y8V
 have e1 : (a1 == b1) = decide (a1 = b1) := rfl
 have e2 : (a2 == b2) = decide (a2 = b2) := rfl
 simp only [e1, e2]
 cases decide (a1 = b1) <;> cases decide (a2 = b2) <;> rfl
theorem yw7 {n k : Nat} (h : n ≤ 1073741825) (hk : (1073741825 + k) * 40 < 140737488355328) : (n + k) * 40 < 140737488355328 := by omega
def WP (k : y8) (s : Bool × List y8) (c : y8) : Bool × List y8 :=
 if s.1 = false ∧ y27 c k = false then (true, if y8V c k then s.2 ++ [k] else s.2 ++ [k] ++ [c]) else (s.1, if y8V c k then s.2 else s.2 ++ [c])
def y1f (l : List y8) (k : y8) : List y8 :=
 let r := l.foldl (WP k) (false, [])
 if r.1 then r.2 else r.2 ++ [k]
def pN (p : Bool) : Nat := if p then 1 else 0
theorem y51 (k : y8) (s : Bool × List y8) (c : y8) : (WP k s c).2.length + pN s.1 ≤ s.2.length + 1 + pN (WP k s c).1 ∧ pN (WP k s c).1 ≤ 1 := by
 unfold WP pN
 obtain ⟨p, o⟩ := s
 cases p <;> cases y27 c k <;> cases y8V c k <;> simp
theorem y0S (k : y8) : ∀ (l : List y8) (s : Bool × List y8), (l.foldl (WP k) s).2.length + pN s.1 ≤ s.2.length + l.length + pN (l.foldl (WP k) s).1
 | [], s => by simp
 | c :: l, s => by
  have h1 := (y51 k s c).1
  have h2 := y0S k l (WP k s c)
  simp only [List.foldl_cons, List.length_cons] at h2 ⊢
  omega
theorem y2G (l : List y8) (k : y8) : (y1f l k).length ≤ l.length + 1 := by
 have h := y0S k l (false, [])
 unfold y1f
 simp only [pN, List.length_nil, Bool.false_eq_true, if_false] at h ⊢
 cases hr : (l.foldl (WP k) (false, [])).1 with
 | true =>
  rw [hr] at h
  simp at h ⊢
  omega
 | false =>
  rw [hr] at h
  simp at h ⊢
  omega
theorem y3r {R : Type} (k0 : Bool × Int × Int × Int × Int × Int × List y8 → Option R) (again : Wg → Option R) (l : List y8) (i : Int) (p : Bool) (a b c d e : Int) (o : List y8) (hl : l.length ≤ 1073741824) (h0 : 0 ≤ i) (h1 : i < (l.length : Int)) (ho : o.length ≤ 1073741825) :
  Yk k0 again (l, p, i, a, b, c, d, e, o) = again (l, (WP (a, b, c, d, e) (p, o) (l.getD i.toNat zv)).1, i + 1, a, b, c, d, e, (WP (a, b, c, d, e) (p, o) (l.getD i.toNat zv)).2) := by
 have hw : Go.IntKind.wrap .i64 (i + 1) = i + 1 := w64 (by omega) (by omega)
 have c1 : (o.length + (0 + 1)) * 40 < 140737488355328 := yw7 ho (by decide)
 have c2 : (o.length + (0 + 1) + (0 + 1)) * 40 < 140737488355328 := by rw [Nat.add_assoc]; exact yw7 ho (by decide)
 obtain ⟨⟨x1, x2, x3, x4, x5⟩, hx⟩ : ∃ x, y0 l i = x := ⟨_, rfl⟩
 have hx' : l.getD i.toNat zv = (x1, x2, x3, x4, x5) := hx
 rw [hx']
 unfold Yk
 simp only [Bool.cond_eq_ite, decide_eq_true_eq, h0, h1, if_true, hw, hx, y0F, y3p, Option.bind_some, List.length_append, List.length_cons, List.length_nil]
 unfold WP
 generalize y27 (x1, x2, x3, x4, x5) (a, b, c, d, e) = q1
 generalize y8V (x1, x2, x3, x4, x5) (a, b, c, d, e) = q2
 simp only [c1, c2, if_true]
 cases p <;> cases q1 <;> cases q2 <;> rfl
theorem y3s {R : Type} (k0 : Bool × Int × Int × Int × Int × Int × List y8 → Option R) (l : List y8) (a b c d e : Int) (hl : l.length ≤ 1073741824) :
  V7 k0 (l, false, 0, a, b, c, d, e, []) = k0 ((l.foldl (WP (a, b, c, d, e)) (false, [])).1, a, b, c, d, e, (l.foldl (WP (a, b, c, d, e)) (false, [])).2) := by
 unfold V7
 refine Yp (step := Yk k0) (fun (i : Int) (s : Bool × List y8) => (l, s.1, i, a, b, c, d, e, s.2)) (fun s => k0 (s.1, a, b, c, d, e, s.2)) zv (WP (a, b, c, d, e)) l (by omega) (fun i s => s.2.length ≤ i + pN s.1) ?_ ?_ (false, []) (by simp)
 ·rintro again i ⟨p, o⟩ h0 h1 hI
  have hp : pN p ≤ 1 := by cases p <;> decide
  have hI' : o.length ≤ i.toNat + pN p := hI
  clear hI
  refine ⟨y3r k0 again l i p a b c d e o hl h0 h1 (by omega), ?_⟩
  have ho := (y51 (a, b, c, d, e) (p, o) (l.getD i.toNat zv)).1
  show (WP (a, b, c, d, e) (p, o) (l.getD i.toNat zv)).2.length ≤ i.toNat + 1 + pN (WP (a, b, c, d, e) (p, o) (l.getD i.toNat zv)).1
  generalize (WP (a, b, c, d, e) (p, o) (l.getD i.toNat zv)) = r at ho ⊢
  simp only at ho
  omega
 ·rintro again i ⟨p, o⟩ hi
  show Yk k0 again (l, p, i, a, b, c, d, e, o) = _
  unfold Yk
  simp only [Bool.cond_eq_ite, decide_eq_true_eq, if_neg hi]
theorem y5D (l : List y8) (a b c d e : Int) (hl : l.length ≤ 1073741824) : Wh (l, a, b, c, d, e) = some (y1f l (a, b, c, d, e)) := by
 have hlen := y0S (a, b, c, d, e) l (false, [])
 unfold Wh y1f
 rw [y3s _ l a b c d e hl]
 generalize l.foldl (WP (a, b, c, d, e)) (false, []) = r at hlen ⊢
 obtain ⟨q, o⟩ := r
 cases q with
 | true => rfl
 | false =>
  simp only [pN, List.length_nil, Bool.false_eq_true, if_false] at hlen
  simp only [Bool.not_false, cond_true, List.length_cons, List.length_nil, Bool.false_eq_true, if_false]
  rw [if_pos (by omega)]
theorem y3t {R : Type} (k0 : Bool × Int × Int × Int × Int × Int × List y8 → Option R) (again : Ww → Option R) (l : List y8) (i : Int) (p : Bool) (a b c d e : Int) (o : List y8) (hl : l.length ≤ 1073741824) (h0 : 0 ≤ i) (h1 : i < (l.length : Int)) (ho : o.length ≤ 1073741825) :
  Yl k0 again (p, l, (l.length : Int), i, a, b, c, d, e, o) = again ((WP (a, b, c, d, e) (p, o) (l.getD i.toNat zv)).1, l, (l.length : Int), i + 1, a, b, c, d, e, (WP (a, b, c, d, e) (p, o) (l.getD i.toNat zv)).2) := by
 have hw : Go.IntKind.wrap .i64 (i + 1) = i + 1 := w64 (by omega) (by omega)
 have c1 : (o.length + (0 + 1)) * 40 < 140737488355328 := yw7 ho (by decide)
 have c2 : (o.length + (0 + 1) + (0 + 1)) * 40 < 140737488355328 := by rw [Nat.add_assoc]; exact yw7 ho (by decide)
 obtain ⟨⟨x1, x2, x3, x4, x5⟩, hx⟩ : ∃ x, y0 l i = x := ⟨_, rfl⟩
 have hx' : l.getD i.toNat zv = (x1, x2, x3, x4, x5) := hx
 rw [hx']
 unfold Yl
 simp only [Bool.cond_eq_ite, decide_eq_true_eq, h0, h1, if_true, hw, hx, y0G, y3q, Option.bind_some, List.length_append, List.length_cons, List.length_nil]
 unfold WP
 generalize y27 (x1, x2, x3, x4, x5) (a, b, c, d, e) = q1
 generalize y8V (x1, x2, x3, x4, x5) (a, b, c, d, e) = q2
 simp only [c1, c2, if_true]
 cases p <;> cases q1 <;> cases q2 <;> rfl
theorem y3u {R : Type} (k0 : Bool × Int × Int × Int × Int × Int × List y8 → Option R) (l : List y8) (a b c d e : Int) (hl : l.length ≤ 1073741824) :
  Vl k0 (false, l, (l.length : Int), 0, a, b, c, d, e, []) = k0 ((l.foldl (WP (a, b, c, d, e)) (false, [])).1, a, b, c, d, e, (l.foldl (WP (a, b, c, d, e)) (false, [])).2) := by
 unfold Vl
 refine Yp (step := Yl k0) (fun (i : Int) (s : Bool × List y8) => (s.1, l, (l.length : Int), i, a, b, c, d, e, s.2)) (fun s => k0 (s.1, a, b, c, d, e, s.2)) zv (WP (a, b, c, d, e)) l (by omega) (fun i s => s.2.length ≤ i + pN s.1) ?_ ?_ (false, []) (by simp)
 ·rintro again i ⟨p, o⟩ h0 h1 hI
  have hp : pN p ≤ 1 := by cases p <;> decide
  have hI' : o.length ≤ i.toNat + pN p := hI
  clear hI
  refine ⟨y3t k0 again l i p a b c d e o hl h0 h1 (by omega), ?_⟩
  have ho := (y51 (a, b, c, d, e) (p, o) (l.getD i.toNat zv)).1
  show (WP (a, b, c, d, e) (p, o) (l.getD i.toNat zv)).2.length ≤ i.toNat + 1 + pN (WP (a, b, c, d, e) (p, o) (l.getD i.toNat zv)).1
  generalize (WP (a, b, c, d, e) (p, o) (l.getD i.toNat zv)) = r at ho ⊢
  simp only at ho
  omega
 ·rintro again i ⟨p, o⟩ hi
  show Yl k0 again (p, l, (l.length : Int), i, a, b, c, d, e, o) = _
  unfold Yl
  simp only [Bool.cond_eq_ite, decide_eq_true_eq, if_neg hi]
theorem y5E (l : List y8) (a b c d e : Int) (hl : l.length ≤ 1073741824) : Wx (l, a, b, c, d, e) = some (y1f l (a, b, c, d, e)) := by
 have hlen := y0S (a, b, c, d, e) l (false, [])
 unfold Wx y1f
 rw [y3u _ l a b c d e hl]
 generalize l.foldl (WP (a, b, c, d, e)) (false, []) = r at hlen ⊢
 obtain ⟨q, o⟩ := r
 cases q with
 | true => rfl
 | false =>
  simp only [pN, List.length_nil, Bool.false_eq_true, if_false] at hlen
  simp only [Bool.not_false, cond_true, List.length_cons, List.length_nil, Bool.false_eq_true, if_false]
  rw [if_pos (by omega)]
end Go.Proofs.YtmapoakbdgpamaaGreat.Pl
namespace Go.Proofs.YtmapoakbdgpamaaGreat.Pl
open Go.Proofs.YtmapoakbdgpamaaGreat.R Go.Proofs.YtmapoakbdgpamaaGreat.XQ
def Vz (a b : List y8) : List y8 := b.foldl y1f a
theorem y0T : ∀ (b a : List y8), (Vz a b).length ≤ a.length + b.length
 | [], a => by simp [Vz]
 | c :: b, a => by
  have h := y0T b (y1f a c)
  have h2 := y2G a c
  unfold Vz at h ⊢
  simp only [List.foldl_cons, List.length_cons] at h ⊢
  omega
def Qg (s : List y8) (c : y8) : List y8 := if c.2.2.1 = 0 then s else s ++ [c]
def yj4 (l : List y8) : List y8 := l.foldl Qg []
theorem y1B (s : List y8) (c : y8) : (Qg s c).length ≤ s.length + 1 := by
 unfold Qg
 split <;> simp
theorem yag : ∀ (l s : List y8), (l.foldl Qg s).length ≤ s.length + l.length
 | [], s => by simp
 | c :: l, s => by
  have h := yag l (Qg s c)
  have h2 := y1B s c
  simp only [List.foldl_cons, List.length_cons]
  omega
def y9g (a : z4) : Int := (List.length a : Int)
theorem Qh (a : z4) : 0 ≤ y9g a := Int.natCast_nonneg _
def VA (n : List z4) : List y8 := yj4 (n.foldl Vz [])
theorem y28 : ∀ (n : List z4) (s : List y8), ((n.foldl Vz s).length : Int) ≤ s.length + z9 y9g n
 | [], s => by simp [z9]
 | c :: n, s => by
  have h := y28 n (Vz s c)
  have h2 := y0T c s
  simp only [List.foldl_cons, zm, y9g]
  omega
theorem y29 (n : List z4) : ((VA n).length : Int) ≤ z9 y9g n := by
 have h := yag (n.foldl Vz []) []
 have h2 := y28 n []
 unfold VA yj4
 simp only [List.length_nil] at h h2
 omega
theorem y2a (n : List z4) : z9 y9g n ≤ vv n := by
 show z9 (fun a : z4 => (List.length a : Int)) n ≤ (List.length n : Int) + z9 (fun a : z4 => (List.length a : Int)) n
 omega
def v5 (s : List y8) (n : zF) : List y8 := s ++ VA n
def QR (t : List zF) : List y8 := t.foldl v5 []
theorem y2H (a b : List y8) (h : a.length + b.length ≤ 1073741824) : Yu (a, b) = some (Vz a b) := by
 unfold Yu q6
 simp only [List.length_nil, Nat.zero_add, List.nil_append]
 rw [if_pos (by omega)]
 refine Yp (step := YD _) (fun (i : Int) (s : List y8) => (b, i, s)) (fun s => some s) zv y1f b (by omega) (fun i s => s.length ≤ a.length + i) ?_ ?_ a (by simp)
 ·intro again i s h0 h1 hI
  have hw : Go.IntKind.wrap .i64 (i + 1) = i + 1 := w64 (by omega) (by omega)
  have hs := y2G s (b.getD i.toNat zv)
  have e := y5D s (y0 b i).1 (y0 b i).2.1 (y0 b i).2.2.1 (y0 b i).2.2.2.1 (y0 b i).2.2.2.2 (by omega)
  refine ⟨?_, by omega⟩
  unfold YD
  simp only [Bool.cond_eq_ite, decide_eq_true_eq, h0, h1, if_true, hw, e, Option.bind_some]
  rfl
 ·intro again i s hi
  unfold YD
  simp only [Bool.cond_eq_ite, decide_eq_true_eq, if_neg hi]
theorem yah (l : List y8) (h : l.length ≤ 1073741824) : kr l = some (yj4 l) := by
 unfold kr y24
 refine Yp (step := Wf _) (fun (i : Int) (s : List y8) => (l, i, s)) (fun s => some s) zv Qg l (by omega) (fun i s => s.length ≤ i) ?_ ?_ [] (by simp)
 ·intro again i s h0 h1 hI
  have hw : Go.IntKind.wrap .i64 (i + 1) = i + 1 := w64 (by omega) (by omega)
  have hs := y1B s (l.getD i.toNat zv)
  refine ⟨?_, by omega⟩
  have c1 : (s.length + 1) * 40 < 140737488355328 := by omega
  clear hs
  unfold Wf Qg
  obtain ⟨⟨x1, x2, x3, x4, x5⟩, hx⟩ : ∃ x, y0 l i = x := ⟨_, rfl⟩
  have hx' : l.getD i.toNat zv = (x1, x2, x3, x4, x5) := hx
  rw [hx']
  simp only [Bool.cond_eq_ite, decide_eq_true_eq, h0, h1, if_true, hw, hx, List.length_cons, List.length_nil, Nat.zero_add, c1]
  by_cases h3 : x3 = 0
  ·rw [if_neg (by simpa using h3), if_pos h3]
  ·rw [if_pos (by simpa using h3), if_neg h3]
 ·intro again i s hi
  unfold Wf
  simp only [Bool.cond_eq_ite, decide_eq_true_eq, if_neg hi]
theorem QJ (n : List y9) (hn : n.length ≤ 1073741824) (h : z9 y9g n ≤ 1048576) : zP n = some (VA n) := by
 have hlen := y28 n []
 simp only [List.length_nil] at hlen
 have hD := yah (n.foldl Vz []) (by omega)
 unfold zP qR
 refine (Yp (step := YZ _) (fun (i : Int) (s : List y8) => (i, n, s)) (fun s => Option.bind (kr s) fun r3 => some r3) yT Vz n (by omega) (fun i s => (s.length : Int) + z9 y9g (n.drop i) ≤ z9 y9g n) ?_ ?_ [] (by simp)).trans ?_
 ·intro again i s h0 h1 hI
  have hw : Go.IntKind.wrap .i64 (i + 1) = i + 1 := w64 (by omega) (by omega)
  rw [Yo yT n i h0 h1, zm, show (i + 1).toNat = i.toNat + 1 by omega] at hI
  have hnn := yI Qh (n.drop (i.toNat + 1))
  have hm := y0T (n.getD i.toNat yT) s
  have hk : y9g (n.getD i.toNat yT) = (List.length (n.getD i.toNat yT) : Int) := rfl
  have e : Yu (s, yh n i) = some (Vz s (yh n i)) := y2H s _ (by show s.length + List.length (n.getD i.toNat yT) ≤ _; omega)
  refine ⟨?_, by omega⟩
  unfold YZ
  simp only [Bool.cond_eq_ite, decide_eq_true_eq, h0, h1, if_true, hw, e, Option.bind_some]
  rfl
 ·intro again i s hi
  unfold YZ
  simp only [Bool.cond_eq_ite, decide_eq_true_eq, if_neg hi]
 ·rw [hD]
  rfl
theorem QK (q : List Int) (t : List y7) (ht : t.length ≤ 1073741824) (hm : ∀ n ∈ t, List.length n ≤ 1073741824) (h : z9 vv t ≤ 1048576) : zQ (q, t) = some (QR t) := by
 unfold zQ qS
 refine Yp (step := Z0 _) (fun (i : Int) (s : List y8) => (i, q, t, s)) (fun s => some s) zg v5 t (by omega) (fun i s => (s.length : Int) + z9 vv (t.drop i) ≤ z9 vv t) ?_ ?_ [] (by simp)
 ·intro again i s h0 h1 hI
  have hw : Go.IntKind.wrap .i64 (i + 1) = i + 1 := w64 (by omega) (by omega)
  rw [Yo zg t i h0 h1, zm, show (i + 1).toNat = i.toNat + 1 by omega] at hI
  have hnn := yI J3 (t.drop (i.toNat + 1))
  have hge := y2a (t.getD i.toNat zg)
  have hk := y29 (t.getD i.toNat zg)
  have e : zP (ym t i) = some (VA (ym t i)) := QJ _ (hm _ (yN zg t i h0 h1)) (by show z9 y9g (t.getD i.toNat zg) ≤ _; omega)
  have hT : (v5 s (t.getD i.toNat zg)).length = s.length + (VA (t.getD i.toNat zg)).length := List.length_append
  have c1 : (s.length + (VA (ym t i)).length) * 40 < 140737488355328 := by
   show (s.length + (VA (t.getD i.toNat zg)).length) * 40 < 140737488355328
   generalize (VA (t.getD i.toNat zg)).length = m at hk ⊢
   clear hT e
   have : s.length + m ≤ 1048576 := by omega
   omega
  refine ⟨?_, by rw [hT]; omega⟩
  unfold Z0
  simp only [Bool.cond_eq_ite, decide_eq_true_eq, h0, h1, if_true, hw, e, Option.bind_some, c1]
  rfl
 ·intro again i s hi
  unfold Z0
  simp only [Bool.cond_eq_ite, decide_eq_true_eq, if_neg hi]
theorem y2I (a b : List y8) (h : a.length + b.length ≤ 1073741824) : Yv (a, b) = some (Vz a b) := by
 unfold Yv zS qb
 simp only [List.length_nil, Nat.zero_add, List.nil_append]
 rw [if_pos (by omega), Option.bind_some]
 refine Yp (step := YF _) (fun (i : Int) (s : List y8) => (b, (b.length : Int), i, s)) (fun s => some s) zv y1f b (by omega) (fun i s => s.length ≤ a.length + i) ?_ ?_ a (by simp)
 ·intro again i s h0 h1 hI
  have hw : Go.IntKind.wrap .i64 (i + 1) = i + 1 := w64 (by omega) (by omega)
  have hs := y2G s (b.getD i.toNat zv)
  have e := y5E s (y0 b i).1 (y0 b i).2.1 (y0 b i).2.2.1 (y0 b i).2.2.2.1 (y0 b i).2.2.2.2 (by omega)
  refine ⟨?_, by omega⟩
  unfold YF
  simp only [Bool.cond_eq_ite, decide_eq_true_eq, h0, h1, if_true, hw, e, Option.bind_some]
  rfl
 ·intro again i s hi
  unfold YF
  simp only [Bool.cond_eq_ite, decide_eq_true_eq, if_neg hi]
theorem yai (l : List y8) (h : l.length ≤ 1073741824) : kI l = some (yj4 l) := by
 unfold kI y25
 refine Yp (step := Wz _) (fun (i : Int) (s : List y8) => (l, (l.length : Int), i, s)) (fun s => some s) zv Qg l (by omega) (fun i s => s.length ≤ i) ?_ ?_ [] (by simp)
 ·intro again i s h0 h1 hI
  have hw : Go.IntKind.wrap .i64 (i + 1) = i + 1 := w64 (by omega) (by omega)
  have hs := y1B s (l.getD i.toNat zv)
  refine ⟨?_, by omega⟩
  have c1 : (s.length + 1) * 40 < 140737488355328 := by omega
  clear hs
  unfold Wz Qg
  obtain ⟨⟨x1, x2, x3, x4, x5⟩, hx⟩ : ∃ x, y0 l i = x := ⟨_, rfl⟩
  have hx' : l.getD i.toNat zv = (x1, x2, x3, x4, x5) := hx
  rw [hx']
  simp only [Bool.cond_eq_ite, decide_eq_true_eq, h0, h1, if_true, hw, hx, List.length_cons, List.length_nil, Nat.zero_add, c1]
  by_cases h3 : x3 = 0
  ·rw [if_neg (by simpa using h3), if_pos h3]
  ·rw [if_pos (by simpa using h3), if_neg h3]
 ·intro again i s hi
  unfold Wz
  simp only [Bool.cond_eq_ite, decide_eq_true_eq, if_neg hi]
theorem QL (n : List y9) (hn : n.length ≤ 1073741824) (h : z9 y9g n ≤ 1048576) : zT n = some (VA n) := by
 have hlen := y28 n []
 simp only [List.length_nil] at hlen
 have hD := yai (n.foldl Vz []) (by omega)
 unfold zT qU
 refine (Yp (step := Za _) (fun (i : Int) (s : List y8) => (n, (n.length : Int), i, s)) (fun s => Option.bind (kI s) fun r3 => some r3) yT Vz n (by omega) (fun i s => (s.length : Int) + z9 y9g (n.drop i) ≤ z9 y9g n) ?_ ?_ [] (by simp)).trans ?_
 ·intro again i s h0 h1 hI
  have hw : Go.IntKind.wrap .i64 (i + 1) = i + 1 := w64 (by omega) (by omega)
  rw [Yo yT n i h0 h1, zm, show (i + 1).toNat = i.toNat + 1 by omega] at hI
  have hnn := yI Qh (n.drop (i.toNat + 1))
  have hm := y0T (n.getD i.toNat yT) s
  have hk : y9g (n.getD i.toNat yT) = (List.length (n.getD i.toNat yT) : Int) := rfl
  have e : Yv (s, yh n i) = some (Vz s (yh n i)) := y2I s _ (by show s.length + List.length (n.getD i.toNat yT) ≤ _; omega)
  refine ⟨?_, by omega⟩
  unfold Za
  simp only [Bool.cond_eq_ite, decide_eq_true_eq, h0, h1, if_true, hw, e, Option.bind_some]
  rfl
 ·intro again i s hi
  unfold Za
  simp only [Bool.cond_eq_ite, decide_eq_true_eq, if_neg hi]
 ·rw [hD]
  rfl
theorem y3v (q : List Int) (t : List y7) (ht : t.length ≤ 1073741824) (hm : ∀ n ∈ t, List.length n ≤ 1073741824) (h : z9 vv t ≤ 1048576) : Zc (q, t) = some (QR t) := by
 unfold Zc qV
 refine Yp (step := Zb _) (fun (i : Int) (s : List y8) => (t, (t.length : Int), i, s)) (fun s => some s) zg v5 t (by omega) (fun i s => (s.length : Int) + z9 vv (t.drop i) ≤ z9 vv t) ?_ ?_ [] (by simp)
 ·intro again i s h0 h1 hI
  have hw : Go.IntKind.wrap .i64 (i + 1) = i + 1 := w64 (by omega) (by omega)
  rw [Yo zg t i h0 h1, zm, show (i + 1).toNat = i.toNat + 1 by omega] at hI
  have hnn := yI J3 (t.drop (i.toNat + 1))
  have hge := y2a (t.getD i.toNat zg)
  have hk := y29 (t.getD i.toNat zg)
  have e : zT (ym t i) = some (VA (ym t i)) := QL _ (hm _ (yN zg t i h0 h1)) (by show z9 y9g (t.getD i.toNat zg) ≤ _; omega)
  have hT : (v5 s (t.getD i.toNat zg)).length = s.length + (VA (t.getD i.toNat zg)).length := List.length_append
  have c1 : (s.length + (VA (ym t i)).length) * 40 < 140737488355328 := by
   show (s.length + (VA (t.getD i.toNat zg)).length) * 40 < 140737488355328
   generalize (VA (t.getD i.toNat zg)).length = m at hk ⊢
   clear hT e
   have : s.length + m ≤ 1048576 := by omega
   omega
  refine ⟨?_, by rw [hT]; omega⟩
  unfold Zb
  simp only [Bool.cond_eq_ite, decide_eq_true_eq, h0, h1, if_true, hw, e, Option.bind_some, c1]
  rfl
 ·intro again i s hi
  unfold Zb
  simp only [Bool.cond_eq_ite, decide_eq_true_eq, if_neg hi]
end Go.Proofs.YtmapoakbdgpamaaGreat.Pl
namespace Go.Proofs.YtmapoakbdgpamaaGreat.Pl
open Go.Proofs.YtmapoakbdgpamaaGreat.R Go.Proofs.YtmapoakbdgpamaaGreat.XQ
def yel {S A R : Type} (g : Int → S → A → Except (Option R) S) (k : S → Option R) : List A → Int → S → Option R
 | [], _, s => k s
 | a :: l, i, s => match g i s a with
  | .error r => r
  | .ok s' => yel g k l (i + 1) s'
theorem ygy {T A S R : Type} {step : (T → Option R) → T → Option R} (mk : Int → S → T) (g : Int → S → A → Except (Option R) S) (k : S → Option R) (da : A) (l : List A) (hl : l.length ≤ 1099511627776) (I : Nat → S → Prop)
  (h : ∀ again i s, 0 ≤ i → i < (l.length : Int) → I i.toNat s → (step again (mk i s) = match g i s (l.getD i.toNat da) with
   | .error r => r
   | .ok s' => again (mk (i + 1) s')) ∧ ∀ s', g i s (l.getD i.toNat da) = .ok s' → I (i.toNat + 1) s')
  (hd : ∀ again i s, ¬ i < (l.length : Int) → step again (mk i s) = k s) (s : S) (hs : I 0 s) : yS step z3 (mk 0 s) = yel g k l 0 s := by
 have key : ∀ (n : Nat) (i : Int) (s : S), 0 ≤ i → i ≤ l.length → I i.toNat s → l.length - i.toNat < n → yS step n (mk i s) = yel g k (l.drop i.toNat) i s := by
  intro n
  induction n with
  | zero => intro i s _ _ _ hn; omega
  | succ n ih =>
   intro i s h0 h1 hI hn
   rw [yS]
   by_cases hi : i < (l.length : Int)
   ·obtain ⟨e, hI'⟩ := h (yS step n) i s h0 hi hI
    have e1 : (i + 1).toNat = i.toNat + 1 := by omega
    rw [e, Yo da l i h0 hi, yel]
    cases hg : g i s (l.getD i.toNat da) with
    | error r => rfl
    | ok s' => exact ih (i + 1) s' (by omega) (by omega) (by rw [e1]; exact hI' s' hg) (by omega)
   ·rw [hd _ i s hi, List.drop_of_length_le (by omega)]
    rfl
 have := key z3 0 s (by omega) (by omega) hs (by rw [Ku]; simp; omega)
 simpa using this
def QS {A : Type} (p : A → Bool) : List A → Int → Int
 | [], _ => -1
 | a :: l, i => if p a then i else QS p l (i + 1)
theorem yaj {A R : Type} (p : A → Bool) (hit : Int → Option R) (miss : Option R) : ∀ (l : List A) (i : Int), 0 ≤ i → yel (fun i (_ : Unit) a => if p a then .error (hit i) else .ok ()) (fun _ => miss) l i () = if QS p l i < 0 then miss else hit (QS p l i)
 | [], i, _ => by simp [yel, QS]
 | a :: l, i, h => by
  rw [yel, QS]
  by_cases hp : p a = true
  ·rw [if_pos hp, if_pos hp, if_neg (by omega)]
  ·rw [if_neg hp, if_neg hp]
   exact yaj p hit miss l (i + 1) (by omega)
theorem y52 {T A R : Type} {step : (T → Option R) → T → Option R} (mk : Int → T) (p : A → Bool) (hit : Int → Option R) (miss : Option R) (da : A) (l : List A) (hl : l.length ≤ 1099511627776)
  (h : ∀ again i, 0 ≤ i → i < (l.length : Int) → step again (mk i) = if p (l.getD i.toNat da) then hit i else again (mk (i + 1)))
  (hd : ∀ again i, ¬ i < (l.length : Int) → step again (mk i) = miss) : yS step z3 (mk 0) = if QS p l 0 < 0 then miss else hit (QS p l 0) := by
 rw [← yaj p hit miss l 0 (Int.le_refl _)]
 refine ygy (fun i (_ : Unit) => mk i) _ _ da l hl (fun _ _ => True) (fun again i s h0 h1 _ => ⟨?_, fun _ _ => trivial⟩) (fun again i s hi => hd again i hi) () trivial
 rw [h again i h0 h1]
 cases p (l.getD i.toNat da) <;> rfl
theorem y2J {A : Type} (p : A → Bool) (da : A) : ∀ (l : List A) (i : Int), 0 ≤ i → QS p l i = -1 ∨ (i ≤ QS p l i ∧ QS p l i < i + l.length ∧ p (l.getD (QS p l i - i).toNat da) = true)
 | [], i, _ => .inl rfl
 | a :: l, i, h => by
  rw [QS]
  by_cases hp : p a = true
  ·rw [if_pos hp]
   refine .inr ⟨Int.le_refl _, by simp only [List.length_cons]; omega, ?_⟩
   simpa using hp
  ·rw [if_neg hp]
   rcases y2J p da l (i + 1) (by omega) with e | ⟨e1, e2, e3⟩
   ·exact .inl e
   ·refine .inr ⟨by omega, by simp only [List.length_cons]; omega, ?_⟩
    rw [show (QS p l (i + 1) - i).toNat = (QS p l (i + 1) - (i + 1)).toNat + 1 by omega, List.getD_cons_succ]
    exact e3
def Kp (l : List yo) (id : Int) : Int := QS (fun a : yo => a.1 == id) l 0
theorem y6D (l : List yo) (id : Int) : Kp l id = -1 ∨ (0 ≤ Kp l id ∧ Kp l id < l.length ∧ (l.getD (Kp l id).toNat WU).1 = id) := by
 rcases y2J (fun a : yo => a.1 == id) WU l 0 (Int.le_refl _) with h | ⟨h1, h2, h3⟩
 ·exact .inl h
 ·refine .inr ⟨h1, by simpa [Kp] using h2, ?_⟩
  have := eq_of_beq h3
  simpa [Kp] using this
theorem Qi (l : List yo) (id : Int) (hl : l.length ≤ 1073741824) : Zp (l, id) = some (Kp l id) := by
 unfold Zp y1b
 refine (y52 (step := JE _ _) (fun i => (l, id, i)) (fun a : yo => a.1 == id) (fun x => some x) (some (-1)) WU l (by omega) ?_ ?_).trans ?_
 ·intro again i h0 h1
  have hw : Go.IntKind.wrap .i64 (i + 1) = i + 1 := w64 (by omega) (by omega)
  unfold JE
  simp only [Bool.cond_eq_ite, decide_eq_true_eq, h0, h1, if_true, hw]
  rfl
 ·intro again i hi
  unfold JE
  simp only [Bool.cond_eq_ite, decide_eq_true_eq, if_neg hi]
 ·rcases y6D l id with h | ⟨h1, h2, h3⟩ <;> unfold Kp at *
  ·rw [h]
   rfl
  ·rw [if_neg (by omega)]
theorem Qj (l : List yo) (id : Int) (hl : l.length ≤ 1073741824) : Zq (l, id) = some (Kp l id) := by
 have key : yL (l, id) = some (Kp l id, id) := by
  unfold yL Y5
  refine (y52 (step := yF _ _) (fun i => (l, (l.length : Int), i, id)) (fun a : yo => a.1 == id) (fun x => some (x, id)) (some (-1, id)) WU l (by omega) ?_ ?_).trans ?_
  ·intro again i h0 h1
   have hw : Go.IntKind.wrap .i64 (i + 1) = i + 1 := w64 (by omega) (by omega)
   unfold yF K9
   simp only [Bool.cond_eq_ite, decide_eq_true_eq, h0, h1, if_true, hw, Option.bind_some]
   rfl
  ·intro again i hi
   unfold yF
   simp only [Bool.cond_eq_ite, decide_eq_true_eq, if_neg hi]
  ·rcases y6D l id with h | ⟨h1, h2, h3⟩ <;> unfold Kp at *
   ·rw [h]
    rfl
   ·rw [if_neg (by omega)]
 unfold Zq
 rw [key]
 rfl
end Go.Proofs.YtmapoakbdgpamaaGreat.Pl
namespace Go.Proofs.YtmapoakbdgpamaaGreat.Pl
open Go.Proofs.YtmapoakbdgpamaaGreat.R Go.Proofs.YtmapoakbdgpamaaGreat.XQ
theorem yak : ∀ (t : List zF) (s : List y8), ((t.foldl v5 s).length : Int) ≤ s.length + z9 vv t
 | [], s => by simp [z9]
 | n :: t, s => by
  have h := yak t (v5 s n)
  have h1 := y29 n
  have h2 := y2a n
  have h3 : (v5 s n).length = s.length + (VA n).length := List.length_append
  simp only [List.foldl_cons, zm]
  omega
theorem ygz (t : List zF) : ((QR t).length : Int) ≤ z9 vv t := by
 have := yak t []
 simpa [QR] using this
structure TOk (t : List y7) : Prop where
 len : t.length ≤ 1048576
 nodes : ∀ n ∈ t, List.length n ≤ 1073741824
 sum : z9 vv t ≤ 1048576
theorem TOk.keys {t : List y7} (h : TOk t) : (QR t).length ≤ 1048576 := by
 have h1 := ygz t
 have h2 := h.sum
 omega
end Go.Proofs.YtmapoakbdgpamaaGreat.Pl
namespace Go.Proofs.YtmapoakbdgpamaaGreat.Pl
open Go.Proofs.YtmapoakbdgpamaaGreat.R Go.Proofs.YtmapoakbdgpamaaGreat.XQ
theorem y53 (o : Option Int) (n w : Int) (k : Int → Option Int) (h : ybP n w o) : (Option.bind o fun r => bif (decide (r < (0 : Int))) then some (-1 : Int) else k r) = some (-1) ∨ (0 ≤ n - w ∧ (Option.bind o fun r => bif (decide (r < (0 : Int))) then some (-1 : Int) else k r) = k (n - w)) := by
 obtain ⟨r, rfl, hc⟩ := h
 simp only [Option.bind_some, Bool.cond_eq_ite, decide_eq_true_eq]
 rcases hc with hc | ⟨h0, h1⟩
 ·exact .inl (if_pos hc)
 ·subst h1
  exact .inr ⟨h0, if_neg (by omega)⟩
def y8W (is : List yp) (ns : List zF) (ags : List WV) (cs : List je) (vs : List jw) : Prop :=
 is.length ≤ 1048576 ∧ ns.length ≤ 1048576 ∧ z9 vv ns ≤ 1048576 ∧ ags.length ≤ 1048576 ∧ cs.length ≤ 1048576 ∧ vs.length ≤ 1048576
theorem yem (m : Int) (m0 : 0 ≤ m) (m1 : m ≤ 1048576) (is : List yp) (ns : List zF) (ags : List WV) (cs : List je) (vs : List jw) (z : Int) (hi : is.length ≤ maxLen) (hn : ns.length ≤ maxLen) (hnn : ∀ a ∈ ns, List.length a ≤ maxLen ∧ ∀ b ∈ (show List z4 from a), List.length b ≤ maxLen)
  (ha : ags.length ≤ maxLen) (hc : cs.length ≤ maxLen) (hv : vs.length ≤ maxLen) (hvv : ∀ a ∈ vs, ByteArray.size a.1 ≤ maxLen) : ∃ r, W5 (is, ns, ags, cs, vs, z, m) = some r ∧ (r < 0 ∨ y8W is ns ags cs vs) := by
 have hT : Jb (is, ns, m) = some (-1) ∨ ∃ r, Jb (is, ns, m) = some r ∧ 0 ≤ r ∧ r ≤ 1048576 ∧ is.length ≤ 1048576 ∧ ns.length ≤ 1048576 ∧ z9 vv ns ≤ 1048576 := by
  unfold Jb
  rcases y53 _ _ _ (fun r1 => Option.bind (j8 (ns, r1)) fun r2 => bif (decide (r2 < (0 : Int))) then some (-1 : Int) else some r2) (ygt is hi m m0 m1) with h | ⟨h0, h⟩
  ·exact .inl h
  ·have hw := yI J3 ns
   rcases y53 _ _ _ (fun r2 => some r2) (yek ns hn hnn (m - (is.length : Int)) h0 (by omega)) with h' | ⟨h0', h'⟩
   ·exact .inl (h.trans h')
   ·refine .inr ⟨_, h.trans h', h0', by omega, by omega, by omega, by omega⟩
 unfold W5
 rcases hT with hT | ⟨r, hT, r0, r1, i1, n1, n2⟩
 ·rw [hT]
  exact ⟨-1, rfl, .inl (by omega)⟩
 ·simp only [hT, Option.bind_some]
  rw [Bool.cond_eq_ite, if_neg (by simp; omega)]
  rcases y53 _ _ _ (fun r2 => Option.bind (Jv (cs, r2)) fun r3 => bif (decide (r3 < (0 : Int))) then some (-1 : Int) else Option.bind (ZC (vs, r3)) fun r4 => bif (decide (r4 < (0 : Int))) then some (-1 : Int) else some r4) (ygv ags ha r r0 r1) with h | ⟨h0, h⟩
  ·exact ⟨-1, h, .inl (by omega)⟩
  ·rcases y53 _ _ _ (fun r3 => Option.bind (ZC (vs, r3)) fun r4 => bif (decide (r4 < (0 : Int))) then some (-1 : Int) else some r4) (yei cs hc (r - (ags.length : Nat)) h0 (by omega)) with h' | ⟨h0', h'⟩
   ·exact ⟨-1, h.trans h', .inl (by omega)⟩
   ·have hw := yI (w := fun a : jw => (ByteArray.size a.1 : Int)) (fun a => Int.natCast_nonneg _) vs
    rcases y53 _ _ _ (fun r4 => some r4) (ygx vs hv hvv (r - (ags.length : Nat) - (cs.length : Nat)) h0' (by omega)) with h'' | ⟨h0'', h''⟩
    ·exact ⟨-1, h.trans (h'.trans h''), .inl (by omega)⟩
    ·exact ⟨_, h.trans (h'.trans h''), .inr ⟨i1, n1, n2, by omega, by omega, by omega⟩⟩
theorem K1 {ns : List zF} (h : z9 vv ns ≤ 1048576) {n : List z4} (hn : n ∈ ns) : n.length ≤ 1048576 ∧ ∀ s ∈ n, List.length s ≤ 1048576 := by
 have h1 := (y0R J3 hn).1
 have h2 := yI Qh n
 have h3 : vv n = (List.length n : Int) + z9 y9g n := rfl
 refine ⟨by omega, fun s hs => ?_⟩
 have h4 := (y0R Qh hs).1
 have h5 : y9g s = (List.length s : Int) := rfl
 omega
theorem ygA (is : List yp) (ns : List zF) (ags : List WV) (cs : List je) (vs : List jw) (z : Int) (h : y8W is ns ags cs vs) : Wd (is, ns, ags, cs, vs, z) = some (is, ns, ags, cs, vs, z) := by
 obtain ⟨h1, h2, h3, h4, h5, h6⟩ := h
 have hN : j9 ns = some ns := yeh ns h2 fun a ha => by
  have hs := K1 h3 ha
  unfold Jc
  rw [yeg a hs.1 fun b hb => ygq b (hs.2 b hb)]
  rfl
 unfold Wd vo
 simp only [ygp is h1, hN, ygr ags h4, yef cs h5, ygs vs h6, Option.bind_some]
theorem ybU (is : List yp) (ns : List zF) (ags : List WV) (cs : List je) (vs : List jw) (z : Int) (h : y8W is ns ags cs vs) : wS (is, ns, ags, cs, vs, z, is, ns, ags, cs, vs, z) = some true := by
 obtain ⟨h1, h2, h3, h4, h5, h6⟩ := h
 have hN : j7 (ns, ns) = some true := yaf ns h2 fun a ha => by
  have hs := K1 h3 ha
  unfold J8
  rw [yae a hs.1 fun b hb => ybR b (hs.2 b hb)]
  rfl
 unfold wS vj
 simp only [ybQ is h1, hN, ybS ags h4, yad cs h5, ybT vs h6, Option.bind_some, Bool.not_true, cond_false, bne_self_eq_false]
end Go.Proofs.YtmapoakbdgpamaaGreat.Pl
namespace Go.Proofs.YtmapoakbdgpamaaGreat.Pl
open Go.Proofs.YtmapoakbdgpamaaGreat.R Go.Proofs.YtmapoakbdgpamaaGreat.XQ
def zN {A : Type} (p : Int → A → Bool) : List A → Int → Bool
 | [], _ => false
 | a :: l, i => p i a || zN p l (i + 1)
theorem ygB {A : Type} (p q : Int → A → Bool) : ∀ (l : List A) (i : Int), zN (fun i a => p i a || q i a) l i = (zN p l i || zN q l i)
 | [], _ => rfl
 | a :: l, i => by
  rw [zN, zN, zN, ygB p q l (i + 1)]
  cases p i a <;> cases q i a <;> cases zN p l (i + 1) <;> rfl
theorem y6E {A : Type} {p q : Int → A → Bool} : ∀ (l : List A) (i : Int), (∀ j a, i ≤ j → p j a = q j a) → zN p l i = zN q l i
 | [], _, _ => rfl
 | a :: l, i, h => by rw [zN, zN, h i a (Int.le_refl _), y6E l (i + 1) (fun j a hj => h j a (by omega))]
theorem y4a {A S R : Type} (p : Int → A → Bool) (f : S → A → S) (r : Option R) (k : S → Option R) : ∀ (l : List A) (i : Int) (s : S), yel (fun i s a => if p i a = true then .error r else .ok (f s a)) k l i s = if zN p l i = true then r else k (l.foldl f s)
 | [], _, _ => by simp [yel, zN]
 | a :: l, i, s => by
  rw [yel, zN]
  by_cases h : p i a = true
  ·simp [h]
  ·have hf : p i a = false := by simpa using h
   simp only [hf, Bool.false_eq_true, if_false, Bool.false_or, List.foldl_cons]
   exact y4a p f r k l (i + 1) (f s a)
theorem y54 {T A S R : Type} {step : (T → Option R) → T → Option R} (mk : Int → S → T) (g : Int → S → A → Except (Option R) S) (k : S → Option R) (da : A) (l : List A) (hl : l.length ≤ 1099511627776) (I : Nat → S → Prop)
  (h : ∀ again i s, 0 ≤ i → i < (l.length : Int) → I i.toNat s → (step again (mk i s) = match g i s (l.getD i.toNat da) with
   | .error r => r
   | .ok s' => again (mk (i + 1) s')) ∧ ∀ s', g i s (l.getD i.toNat da) = .ok s' → I (i.toNat + 1) s')
  (hd : ∀ again i s, ¬ i < (l.length : Int) → step again (mk i s) = k s) (i0 : Int) (h00 : 0 ≤ i0) (s : S) (hs : I i0.toNat s) : yS step z3 (mk i0 s) = yel g k (l.drop i0.toNat) i0 s := by
 have key : ∀ (n : Nat) (i : Int) (s : S), 0 ≤ i → I i.toNat s → l.length - i.toNat < n → yS step n (mk i s) = yel g k (l.drop i.toNat) i s := by
  intro n
  induction n with
  | zero => intro i s _ _ hn; omega
  | succ n ih =>
   intro i s h0 hI hn
   rw [yS]
   by_cases hi : i < (l.length : Int)
   ·obtain ⟨e, hI'⟩ := h (yS step n) i s h0 hi hI
    have e1 : (i + 1).toNat = i.toNat + 1 := by omega
    rw [e, Yo da l i h0 hi, yel]
    cases hg : g i s (l.getD i.toNat da) with
    | error r => rfl
    | ok s' => exact ih (i + 1) s' (by omega) (by rw [e1]; exact hI' s' hg) (by omega)
   ·rw [hd _ i s hi, List.drop_of_length_le (by omega)]
    rfl
 exact key z3 i0 s h00 hs (by rw [Ku]; omega)
theorem y4b {T A S R : Type} {step : (T → Option R) → T → Option R} (mk : Int → S → T) (p : Int → A → Bool) (f : S → A → S) (r : Option R) (k : S → Option R) (da : A) (l : List A) (hl : l.length ≤ 1099511627776)
  (h : ∀ again i s, 0 ≤ i → i < (l.length : Int) → step again (mk i s) = if p i (l.getD i.toNat da) = true then r else again (mk (i + 1) (f s (l.getD i.toNat da))))
  (hd : ∀ again i s, ¬ i < (l.length : Int) → step again (mk i s) = k s) (s : S) : yS step z3 (mk 0 s) = if zN p l 0 = true then r else k (l.foldl f s) := by
 rw [← y4a p f r k l 0 s]
 have := y54 (step := step) mk (fun i s a => if p i a = true then .error r else .ok (f s a)) k da l hl (fun _ _ => True) (fun again i s h0 h1 _ => ⟨?_, fun _ _ => trivial⟩) hd 0 (Int.le_refl _) s trivial
 ·simpa using this
 ·rw [h again i s h0 h1]
  by_cases hp : p i (l.getD i.toNat da) = true
  ·rw [if_pos hp, if_pos hp]
  ·rw [if_neg hp, if_neg hp]
theorem zc {T A R : Type} {step : (T → Option R) → T → Option R} (mk : Int → T) (p : Int → A → Bool) (r k : Option R) (da : A) (l : List A) (hl : l.length ≤ 1099511627776)
  (h : ∀ again i, 0 ≤ i → i < (l.length : Int) → step again (mk i) = if p i (l.getD i.toNat da) = true then r else again (mk (i + 1)))
  (hd : ∀ again i, ¬ i < (l.length : Int) → step again (mk i) = k) : yS step z3 (mk 0) = if zN p l 0 = true then r else k :=
 y4b (fun i (_ : Unit) => mk i) p (fun _ _ => ()) r (fun _ => k) da l hl (fun again i _ h0 h1 => h again i h0 h1) (fun again i _ hi => hd again i hi) ()
end Go.Proofs.YtmapoakbdgpamaaGreat.Pl
namespace Go.Proofs.YtmapoakbdgpamaaGreat.Pl
open Go.Proofs.YtmapoakbdgpamaaGreat.R Go.Proofs.YtmapoakbdgpamaaGreat.XQ
def Jj (k : y8) : Bool := inR k.1 0 15 && (inR k.2.1 1 60 && (inR k.2.2.1 0 2 && (if k.2.2.1 = 1 then inR k.2.2.2.1 0 23 && inR k.2.2.2.2 0 999 else (k.2.2.2.1 == 0) && (k.2.2.2.2 == 0))))
theorem y2b (a b c d e : Int) : wA (a, b, c, d, e) = some (Jj (a, b, c, d, e)) := by
 unfold wA Jj
 simp only [ZH, Option.bind_some]
 by_cases hc : c = 1
 ·subst hc
  cases inR a 0 15 <;> cases inR b 1 60 <;> cases inR 1 0 2 <;> cases inR d 0 23 <;> rfl
 ·have hc' : (c == 1) = false := by simpa using hc
  rw [hc', if_neg hc]
  cases inR a 0 15 <;> cases inR b 1 60 <;> cases inR c 0 2 <;> cases (d == 0) <;> rfl
theorem y2c (a b c d e : Int) : wB (a, b, c, d, e) = some (Jj (a, b, c, d, e)) := by
 unfold wB Jj
 simp only [zV, Option.bind_some]
 by_cases hc : c = 1
 ·subst hc
  cases inR a 0 15 <;> cases inR b 1 60 <;> cases inR 1 0 2 <;> cases inR d 0 23 <;> rfl
 ·have hc' : (c != 1) = true := by simpa using hc
  rw [hc', if_neg hc]
  cases inR a 0 15 <;> cases inR b 1 60 <;> cases inR c 0 2 <;> cases (d == 0) <;> rfl
def K2 (l : List y8) (i : Int) (a : y8) : Bool := decide (0 < i) && !y27 (l.getD (i - 1).toNat zv) a
def y1g (l : List y8) : Bool := !zN (fun _ a => !Jj a) l 0 && (!zN (K2 l) l 0 && decide ((l.length : Int) ≤ 60))
theorem y8X (l : List y8) (hl : l.length ≤ 1073741824) : JB l = some (!zN (K2 l) l 0) := by
 unfold JB QB
 have key := y54 (step := ZN (fun x2 => some x2) (fun x3 => some true)) (fun i (_ : Unit) => (l, i)) (fun i (s : Unit) a => if (decide (0 < i) && !y27 (l.getD (i - 1).toNat zv) a) = true ∨ i = 0 then .error (some false) else .ok s) (fun _ => some true) zv l (by omega) (fun i _ => 1 ≤ i) ?_ ?_ 1 (by omega) () (by decide)
 ·rw [key]
  have h1 : zN (K2 l) l 0 = zN (K2 l) (l.drop 1) 1 := by
   cases l with
   | nil => rfl
   | cons a l => simp [zN, K2]
  rw [h1]
  have h2 := y4a (fun i a => decide ((decide (0 < i) && !y27 (l.getD (i - 1).toNat zv) a) = true ∨ i = 0)) (fun (s : Unit) _ => s) (some false) (fun _ => some true) (l.drop 1) 1 ()
  simp only [decide_eq_true_eq] at h2
  rw [show (1 : Int).toNat = 1 from rfl, h2]
  have h3 : zN (fun i a => decide ((decide (0 < i) && !y27 (l.getD (i - 1).toNat zv) a) = true ∨ i = 0)) (l.drop 1) 1 = zN (K2 l) (l.drop 1) 1 := y6E _ _ fun j a hj => by
   unfold K2
   have : ¬ j = 0 := by omega
   simp [this]
  rw [h3]
  cases zN (K2 l) (l.drop 1) 1 <;> rfl
 ·intro again i s h0 h1 hI
  have hi : 1 ≤ i := by
   have : (1 : Nat) ≤ i.toNat := hI
   omega
  have hw : Go.IntKind.wrap .i64 (i + 1) = i + 1 := w64 (by omega) (by omega)
  have hm : Go.IntKind.wrap .i64 (i - 1) = i - 1 := w64 (by omega) (by omega)
  refine ⟨?_, fun _ _ => by omega⟩
  unfold ZN
  obtain ⟨⟨x1, x2, x3, x4, x5⟩, hx⟩ : ∃ x, y0 l i = x := ⟨_, rfl⟩
  have hx' : l.getD i.toNat zv = (x1, x2, x3, x4, x5) := hx
  obtain ⟨⟨y1, y2, y3, y4, y5⟩, hy⟩ : ∃ y, y0 l (i - 1) = y := ⟨_, rfl⟩
  have hy' : l.getD (i - 1).toNat zv = (y1, y2, y3, y4, y5) := hy
  rw [hx', hy']
  have h3 : 0 ≤ i - 1 := by omega
  have h4 : i - 1 < (l.length : Int) := by omega
  have h5 : 0 < i := by omega
  have h6 : ¬ i = 0 := by omega
  simp only [Bool.cond_eq_ite, decide_eq_true_eq, h0, h1, if_true, hw, hm, hx, hy, h3, h4, h5, h6, y0F, Option.bind_some, decide_true, Bool.true_and, or_false]
  cases y27 (y1, y2, y3, y4, y5) (x1, x2, x3, x4, x5) <;> rfl
 ·intro again i s hi
  unfold ZN
  simp only [Bool.cond_eq_ite, decide_eq_true_eq, if_neg hi]
theorem y8Y (l : List y8) (hl : l.length ≤ 1073741824) : Km l = some (y1g l) := by
 unfold Km y1a y1g
 refine (zc (step := JC _ _) (fun i => (l, i)) (fun _ a => !Jj a) (some false) (some (!zN (K2 l) l 0 && decide ((l.length : Int) ≤ 60))) zv l (by omega) ?_ ?_).trans ?_
 ·intro again i h0 h1
  have hw : Go.IntKind.wrap .i64 (i + 1) = i + 1 := w64 (by omega) (by omega)
  unfold JC
  obtain ⟨⟨x1, x2, x3, x4, x5⟩, hx⟩ : ∃ x, y0 l i = x := ⟨_, rfl⟩
  have hx' : l.getD i.toNat zv = (x1, x2, x3, x4, x5) := hx
  rw [hx']
  simp only [Bool.cond_eq_ite, decide_eq_true_eq, h0, h1, if_true, hw, hx, y2b, Option.bind_some]
 ·intro again i hi
  unfold JC
  simp only [Bool.cond_eq_ite, decide_eq_true_eq, if_neg hi, y8X l hl, Option.bind_some]
  cases zN (K2 l) l 0 <;> rfl
 ·cases zN (fun _ a => !Jj a) l 0 <;> rfl
theorem y8Z (l : List y8) (hl : l.length ≤ 1073741824) : Ko l = some (y1g l) := by
 unfold Ko y1e y1g
 refine (zc (step := JN _ _) (fun i => (l, l, (l.length : Int), i)) (fun i a => !Jj a || K2 l i a) (some false) (some (decide ((l.length : Int) ≤ 60))) zv l (by omega) ?_ ?_).trans ?_
 ·intro again i h0 h1
  have hw : Go.IntKind.wrap .i64 (i + 1) = i + 1 := w64 (by omega) (by omega)
  have hm : Go.IntKind.wrap .i64 (i - 1) = i - 1 := w64 (by omega) (by omega)
  unfold JN K2
  obtain ⟨⟨x1, x2, x3, x4, x5⟩, hx⟩ : ∃ x, y0 l i = x := ⟨_, rfl⟩
  have hx' : l.getD i.toNat zv = (x1, x2, x3, x4, x5) := hx
  obtain ⟨⟨y1, y2, y3, y4, y5⟩, hy⟩ : ∃ y, y0 l (i - 1) = y := ⟨_, rfl⟩
  have hy' : l.getD (i - 1).toNat zv = (y1, y2, y3, y4, y5) := hy
  rw [hx', hy']
  simp only [Bool.cond_eq_ite, decide_eq_true_eq, h0, h1, if_true, hw, hm, hx, hy, y2c, y0G, Option.bind_some]
  cases Jj (x1, x2, x3, x4, x5)
  ·rfl
  ·by_cases h5 : 0 < i
   ·have h3 : 0 ≤ i - 1 := by omega
    have h4 : i - 1 < (l.length : Int) := by omega
    simp only [gt_iff_lt, h5, h3, h4, if_true, decide_true]
    cases y27 (y1, y2, y3, y4, y5) (x1, x2, x3, x4, x5) <;> rfl
   ·simp [h5]
 ·intro again i hi
  unfold JN
  simp only [Bool.cond_eq_ite, decide_eq_true_eq, if_neg hi]
 ·rw [ygB]
  cases zN (fun _ a => !Jj a) l 0 <;> cases zN (K2 l) l 0 <;> rfl
def y3d (_ : Int) (a : y9) : Bool := !y1g a || ((List.length a : Int) == 0)
def y3e (s : Int) (a : y9) : Int := Go.IntKind.wrap .i64 (s + (List.length a : Int))
def K3 (n : List y9) : Bool := !zN y3d n 0 && (decide ((n.length : Int) ≤ 3) && decide (n.foldl y3e 0 ≤ 8))
theorem y90 (n : List y9) (hn : n.length ≤ 1073741824) : JD n = some (n.foldl y3e 0) := by
 unfold JD QC
 refine Yp (step := ZO _) (fun (i s : Int) => (s, i, n)) (fun s => some s) yT y3e n (by omega) (fun _ _ => True) ?_ ?_ 0 trivial
 ·intro again i s h0 h1 _
  have hw : Go.IntKind.wrap .i64 (i + 1) = i + 1 := w64 (by omega) (by omega)
  refine ⟨?_, trivial⟩
  unfold ZO
  simp only [Bool.cond_eq_ite, decide_eq_true_eq, h0, h1, if_true, hw]
  rfl
 ·intro again i s hi
  unfold ZO
  simp only [Bool.cond_eq_ite, decide_eq_true_eq, if_neg hi]
theorem y5F (n : List y9) (hn : n.length ≤ 1073741824) (hm : ∀ s ∈ n, List.length s ≤ 1073741824) : Wj n = some (K3 n) := by
 unfold Wj y0i K3
 refine (zc (step := jJ _ _) (fun i => (i, n)) y3d (some false) (some (decide ((n.length : Int) ≤ 3) && decide (n.foldl y3e 0 ≤ 8))) yT n (by omega) ?_ ?_).trans ?_
 ·intro again i h0 h1
  have hw : Go.IntKind.wrap .i64 (i + 1) = i + 1 := w64 (by omega) (by omega)
  have e := y8Y (yh n i) (hm _ (yN yT n i h0 h1))
  unfold jJ y3d
  have hx : n.getD i.toNat yT = yh n i := rfl
  rw [hx]
  simp only [Bool.cond_eq_ite, decide_eq_true_eq, h0, h1, if_true, hw, e, Option.bind_some]
  cases y1g (yh n i)
  ·rfl
  ·rfl
 ·intro again i hi
  unfold jJ
  simp only [Bool.cond_eq_ite, decide_eq_true_eq, if_neg hi, y90 n hn, Option.bind_some]
  by_cases h3 : (n.length : Int) ≤ 3 <;> simp [h3]
 ·cases zN y3d n 0 <;> rfl
theorem y5G (n : List y9) (hn : n.length ≤ 1073741824) (hm : ∀ s ∈ n, List.length s ≤ 1073741824) : Wv n = some (K3 n) := by
 unfold Wv y0t K3
 refine (y4b (step := jS _ _) (fun (i s : Int) => (s, n, (n.length : Int), i, n)) y3d y3e (some false) (fun s => some (decide ((n.length : Int) ≤ 3) && decide (s ≤ 8))) yT n (by omega) ?_ ?_ 0).trans ?_
 ·intro again i s h0 h1
  have hw : Go.IntKind.wrap .i64 (i + 1) = i + 1 := w64 (by omega) (by omega)
  have e := y8Z (yh n i) (hm _ (yN yT n i h0 h1))
  unfold jS y3d y3e
  have hx : n.getD i.toNat yT = yh n i := rfl
  rw [hx]
  simp only [Bool.cond_eq_ite, decide_eq_true_eq, h0, h1, if_true, hw, e, Option.bind_some]
  cases y1g (yh n i)
  ·rfl
  ·rfl
 ·intro again i s hi
  unfold jS
  simp only [Bool.cond_eq_ite, decide_eq_true_eq, if_neg hi]
  by_cases h3 : (n.length : Int) ≤ 3 <;> simp [h3]
 ·cases zN y3d n 0 <;> rfl
end Go.Proofs.YtmapoakbdgpamaaGreat.Pl
namespace Go.Proofs.YtmapoakbdgpamaaGreat.Pl
open Go.Proofs.YtmapoakbdgpamaaGreat.R Go.Proofs.YtmapoakbdgpamaaGreat.XQ
def yj5 (a : y8) : Int := Go.IntKind.wrap .i64 (Go.IntKind.wrap .i64 ((64 : Int) * a.1) + a.2.1)
def ynw (q : List Int) (i : Int) (_ : Int) (a : y8) : Bool := decide (yj5 a < q.getD i.toNat 0) || (decide (i + 1 < (q.length : Int)) && decide (yj5 a ≥ q.getD (i + 1).toNat 0))
theorem TOk.node {t : List y7} (h : TOk t) {n : List y9} (hn : n ∈ t) : n.length ≤ 1048576 ∧ ∀ s ∈ n, List.length s ≤ 1048576 := K1 h.sum hn
theorem TOk.sumK {t : List y7} (h : TOk t) {n : List y9} (hn : n ∈ t) : z9 y9g n ≤ 1048576 := by
 have h1 := (y0R J3 hn).1
 have h2 := y2a n
 have h3 := h.sum
 omega
theorem yen {R : Type} (k0 : (Int × Bool × Int × List yp × List y7 × List y9) → Option R) (k1 : (Int × Int × List yp × List y7 × List y9) → Option R) (i k : Int) (q : List Int) (t : List y7) (n : List y9) (hk0 : 0 ≤ k) (hk : k < (n.length : Int)) (hi0 : 0 ≤ i) (hi : i < (q.length : Int)) (hq : q.length ≤ 1048576) (hs : List.length (yh n k) ≤ 1048576) :
  Va k0 k1 (i, k, 0, q, t, n) = if zN (ynw q i) (yh n k) 0 = true then k0 (i, false, k, q, t, n) else k1 (i, k, q, t, n) := by
 unfold Va
 refine zc (step := jK k0 k1) (fun j => (i, k, j, q, t, n)) (ynw q i) _ _ zv (yh n k) (by omega) ?_ ?_
 ·intro again j h0 h1
  have hw : Go.IntKind.wrap .i64 (j + 1) = j + 1 := w64 (by omega) (by omega)
  have hwi : Go.IntKind.wrap .i64 (i + 1) = i + 1 := w64 (by omega) (by omega)
  unfold jK ynw vt vr yj5
  obtain ⟨⟨x1, x2, x3, x4, x5⟩, hx⟩ : ∃ x, y0 (yh n k) j = x := ⟨_, rfl⟩
  have hx' : (yh n k).getD j.toNat zv = (x1, x2, x3, x4, x5) := hx
  have e1 : q.getD i.toNat 0 = zy q i := rfl
  have e2 : q.getD (i + 1).toNat 0 = zy q (i + 1) := rfl
  rw [hx', e1, e2]
  have hi1 : 0 ≤ i + 1 := by omega
  simp only [Bool.cond_eq_ite, decide_eq_true_eq, h0, h1, hk0, hk, hi0, hi, hi1, if_true, hw, hwi, hx, Option.bind_some]
  by_cases h2 : Go.IntKind.wrap .i64 (Go.IntKind.wrap .i64 ((64 : Int) * x1) + x2) < zy q i
  ·simp [h2]
  ·by_cases h3 : i + 1 < (q.length : Int)
   ·simp [h2, h3]
   ·simp [h2, h3]
 ·intro again j hj
  unfold jK
  simp only [Bool.cond_eq_ite, decide_eq_true_eq, hk0, hk, if_true, if_neg hj]
def ygC (q : List Int) (i : Int) (_ : Int) (s : y9) : Bool := zN (ynw q i) s 0
def ygD (n : y7) : Bool := ((VA n).length : Int) == 0
def ybV (q : List Int) (i : Int) (n : y7) : Bool := K3 n && (!(decide (0 < i) && ygD n) && !zN (ygC q i) n 0)
theorem y5H (q : List Int) (t : List y7) (i : Int) (ht : TOk t) (hi0 : 0 ≤ i) (hi : i < (t.length : Int)) (hq : q.length = t.length) : Wk (q, t, i) = some (ybV q i (ym t i)) := by
 have hmem : ym t i ∈ t := yN zg t i hi0 hi
 obtain ⟨hn, hs⟩ := ht.node hmem
 have hlen := ht.len
 have hq1 : i < (q.length : Int) := by omega
 have hq2 : q.length ≤ 1048576 := by omega
 have e1 := y5F (ym t i) (by omega) (fun s hh => by have := hs s hh; omega)
 have e2 : zP (ym t i) = some (VA (ym t i)) := QJ _ (by omega) (ht.sumK hmem)
 unfold Wk ybV ygD
 simp only [hi0, hi, if_true, e1, Option.bind_some]
 generalize ym t i = n at *
 cases K3 n
 ·rfl
 ·have key : Vc (fun x10 => some x10) (fun x11 => some true) (i, 0, q, t, n) = some (!zN (ygC q i) n 0) := by
   unfold Vc
   refine (zc (step := jL _ _) (fun k => (i, k, q, t, n)) (ygC q i) (some false) (some true) yT n (by omega) ?_ ?_).trans ?_
   ·intro again k h0 h1
    have hw : Go.IntKind.wrap .i64 (k + 1) = k + 1 := w64 (by omega) (by omega)
    have hsk : List.length (yh n k) ≤ 1048576 := hs _ (yN yT n k h0 h1)
    unfold jL ygC
    have hx : n.getD k.toNat yT = yh n k := rfl
    rw [hx]
    simp only [Bool.cond_eq_ite, decide_eq_true_eq, h1, if_true, yen _ _ i k q t n h0 h1 hi0 hq1 hq2 hsk, hw]
   ·intro again k hk
    unfold jL
    simp only [Bool.cond_eq_ite, decide_eq_true_eq, if_neg hk]
   ·cases zN (ygC q i) n 0 <;> rfl
  simp only [key, e2, Option.bind_some, Bool.not_true, cond_false, gt_iff_lt]
  by_cases h0 : 0 < i
  ·simp only [h0, decide_true, cond_true, Bool.true_and]
   cases (((VA n).length : Int) == 0) <;> rfl
  ·simp only [h0, decide_false, cond_false, Bool.false_and]
   rfl
theorem yeo {R : Type} (k0 : (Int × Bool × List y9 × Int × Int × List yp × List y7) → Option R) (k1 : (Int × List y9 × Int × Int × List yp × List y7) → Option R) (i k m : Int) (q : List Int) (t : List y7) (n : List y9) (s : List y8) (hi0 : 0 ≤ i) (hi : i < (q.length : Int)) (hq : q.length ≤ 1048576) (hs : s.length ≤ 1048576) :
  kG k0 k1 (i, n, m, k, s, (s.length : Int), 0, q, t) = if zN (ynw q i) s 0 = true then k0 (i, false, n, m, k, q, t) else k1 (i, n, m, k, q, t) := by
 unfold kG
 refine zc (step := Z7 k0 k1) (fun j => (i, n, m, k, s, (s.length : Int), j, q, t)) (ynw q i) _ _ zv s (by omega) ?_ ?_
 ·intro again j h0 h1
  have hw : Go.IntKind.wrap .i64 (j + 1) = j + 1 := w64 (by omega) (by omega)
  have hwi : Go.IntKind.wrap .i64 (i + 1) = i + 1 := w64 (by omega) (by omega)
  unfold Z7 ynw vu yj5
  obtain ⟨⟨x1, x2, x3, x4, x5⟩, hx⟩ : ∃ x, y0 s j = x := ⟨_, rfl⟩
  have hx' : s.getD j.toNat zv = (x1, x2, x3, x4, x5) := hx
  have e1 : q.getD i.toNat 0 = zy q i := rfl
  have e2 : q.getD (i + 1).toNat 0 = zy q (i + 1) := rfl
  rw [hx', e1, e2]
  have hi1 : 0 ≤ i + 1 := by omega
  simp only [Bool.cond_eq_ite, decide_eq_true_eq, h0, h1, hi0, hi, hi1, if_true, hw, hwi, hx, Option.bind_some]
  by_cases h2 : Go.IntKind.wrap .i64 (Go.IntKind.wrap .i64 ((64 : Int) * x1) + x2) < zy q i
  ·simp [h2]
  ·by_cases h3 : i + 1 < (q.length : Int)
   ·simp [h2, h3]
   ·simp [h2, h3]
 ·intro again j hj
  unfold Z7
  simp only [Bool.cond_eq_ite, decide_eq_true_eq, if_neg hj]
theorem y3w (q : List Int) (t : List y7) (i : Int) (ht : TOk t) (hi0 : 0 ≤ i) (hi : i < (t.length : Int)) (hq : q.length = t.length) : jT (q, t, i) = some (!zN (ygC q i) (ym t i) 0) := by
 have hmem : ym t i ∈ t := yN zg t i hi0 hi
 obtain ⟨hn, hs⟩ := ht.node hmem
 have hlen := ht.len
 have hq1 : i < (q.length : Int) := by omega
 have hq2 : q.length ≤ 1048576 := by omega
 unfold jT qT
 simp only [hi0, hi, if_true]
 generalize ym t i = n at *
 refine (zc (step := Z8 _ _) (fun k => (i, n, (n.length : Int), k, q, t)) (ygC q i) (some false) (some true) yT n (by omega) ?_ ?_).trans ?_
 ·intro again k h0 h1
  have hw : Go.IntKind.wrap .i64 (k + 1) = k + 1 := w64 (by omega) (by omega)
  have hsk : List.length (yh n k) ≤ 1048576 := hs _ (yN yT n k h0 h1)
  unfold Z8 ygC
  have hx : n.getD k.toNat yT = yh n k := rfl
  rw [hx]
  simp only [Bool.cond_eq_ite, decide_eq_true_eq, h0, h1, if_true, yeo _ _ i k (n.length : Int) q t n _ hi0 hq1 hq2 hsk, hw]
 ·intro again k hk
  unfold Z8
  simp only [Bool.cond_eq_ite, decide_eq_true_eq, if_neg hk]
 ·cases zN (ygC q i) n 0 <;> rfl
def ynx (q : List Int) (i : Int) : Bool := decide (0 < i) && decide (q.getD (i - 1).toNat 0 ≥ q.getD i.toNat 0)
def y0H (q : List Int) (i : Int) (n : y7) : Bool := ynx q i || !ybV q i n
def y55 (s : Int) (n : y7) : Int := Go.IntKind.wrap .i64 (s + ((VA n).length : Int))
def VB (q : List Int) (t : List y7) : Bool :=
 inR (t.length : Int) 1 20 && (decide (q.length = t.length) && ((q.getD 0 0 == 0) && (!zN (y0H q) t 0 && decide (((QR t).length : Int) ≤ 60))))
theorem ygE : ∀ (t : List y7) (s : List y8), (s.length : Int) + z9 vv t ≤ 1048576 → t.foldl y55 (s.length : Int) = ((t.foldl v5 s).length : Int)
 | [], _, _ => rfl
 | n :: t, s, h => by
  rw [zm] at h
  have h1 := y29 n
  have h2 := y2a n
  have h3 := yI J3 t
  have h4 : (v5 s n).length = s.length + (VA n).length := List.length_append
  rw [List.foldl_cons, List.foldl_cons, show y55 (s.length : Int) n = ((v5 s n).length : Int) by
   unfold y55
   rw [h4, w64 (by omega) (by omega)]
   omega]
  exact ygE t (v5 s n) (by rw [h4]; omega)
theorem y5I (q : List Int) (t : List y7) (ht : TOk t) : Wl (q, t) = some (VB q t) := by
 have hlen := ht.len
 unfold Wl VB
 simp only [ZH, Option.bind_some]
 cases h1 : inR (t.length : Int) 1 20
 ·rfl
 by_cases hq : q.length = t.length
 ·have hq' : ((q.length : Int) != (t.length : Int)) = false := by simp [hq]
  have hpos : 0 < (q.length : Int) := by
   have := (Zk.1 h1).1
   omega
  have hd : decide (q.length = t.length) = true := by simp [hq]
  simp only [hq', hd, Bool.not_true, cond_false, cond_true, Option.bind_some, Bool.true_and]
  rw [if_pos (Int.le_refl _), if_pos (by omega)]
  have e0 : zy q 0 = q.getD 0 0 := rfl
  rw [e0]
  try simp only [Option.bind_some]
  by_cases hz : q.getD 0 0 = 0
  ·have hz1 : (q.getD 0 0 != 0) = false := by rw [hz]; rfl
   have hz2 : (q.getD 0 0 == 0) = true := by rw [hz]; rfl
   rw [hz1, hz2]
   simp only [cond_false, Bool.true_and]
   unfold y0j
   refine (zc (step := jM _ _) (fun i => (i, q, t)) (y0H q) (some false) (some (decide (((QR t).length : Int) ≤ 60))) zg t (by omega) ?_ ?_).trans ?_
   ·intro again i h0 h1
    have hw : Go.IntKind.wrap .i64 (i + 1) = i + 1 := w64 (by omega) (by omega)
    have hm : Go.IntKind.wrap .i64 (i - 1) = i - 1 := w64 (by omega) (by omega)
    have e := y5H q t i ht h0 h1 hq
    unfold jM y0H ynx
    have hx : t.getD i.toNat zg = ym t i := rfl
    have e1 : q.getD i.toNat 0 = zy q i := rfl
    have e2 : q.getD (i - 1).toNat 0 = zy q (i - 1) := rfl
    rw [hx, e1, e2]
    simp only [Bool.cond_eq_ite, decide_eq_true_eq, h0, h1, if_true, hw, hm, e, gt_iff_lt]
    by_cases h5 : 0 < i
    ·rw [if_pos h5, if_pos (by omega), if_pos (by omega), if_pos (by omega)]
     simp only [h5, decide_true, Option.bind_some, Bool.true_and]
     cases decide (zy q (i - 1) ≥ zy q i) <;> cases ybV q i (ym t i) <;> rfl
    ·rw [if_neg h5]
     simp only [h5, decide_false, Option.bind_some, Bool.false_and]
     cases ybV q i (ym t i) <;> rfl
   ·intro again i hi
    have e : zQ (q, t) = some (QR t) := QK q t (by omega) ht.nodes ht.sum
    unfold jM
    simp only [Bool.cond_eq_ite, decide_eq_true_eq, if_neg hi, e, Option.bind_some]
   ·cases zN (y0H q) t 0 <;> rfl
  ·have hz1 : (q.getD 0 0 != 0) = true := by simpa using hz
   have hz2 : (q.getD 0 0 == 0) = false := by simpa using hz
   rw [hz1, hz2]
   rfl
 ·have hq' : ((q.length : Int) != (t.length : Int)) = true := by
   simp only [bne_iff_ne, ne_eq]
   omega
  have hd : decide (q.length = t.length) = false := by simp [hq]
  simp only [hq', hd, Bool.not_true, cond_false, cond_true, Option.bind_some, Bool.false_and, Bool.and_false]
theorem y5J (q : List Int) (t : List y7) (ht : TOk t) : WA (q, t) = some (VB q t) := by
 have hlen := ht.len
 unfold WA VB
 simp only [zV, Option.bind_some]
 cases h1 : inR (t.length : Int) 1 20
 ·rfl
 by_cases hq : q.length = t.length
 ·have hq' : ((q.length : Int) != (t.length : Int)) = false := by simp [hq]
  have hpos : 0 < (q.length : Int) := by
   have := (Zk.1 h1).1
   omega
  have hd : decide (q.length = t.length) = true := by simp [hq]
  simp only [hq', hd, Bool.not_true, cond_false, cond_true, Option.bind_some, Bool.true_and]
  rw [if_pos (Int.le_refl _), if_pos (by omega)]
  have e0 : zy q 0 = q.getD 0 0 := rfl
  rw [e0]
  try simp only [Option.bind_some]
  by_cases hz : q.getD 0 0 = 0
  ·have hz1 : (q.getD 0 0 != 0) = false := by rw [hz]; rfl
   have hz2 : (q.getD 0 0 == 0) = true := by rw [hz]; rfl
   rw [hz1, hz2]
   simp only [cond_false, Bool.true_and]
   unfold y0u
   refine (y4b (step := jU _ _) (fun (i s : Int) => (s, t, (t.length : Int), i, q, t)) (y0H q) y55 (some false) (fun s => some (decide (s ≤ 60))) zg t (by omega) ?_ ?_ 0).trans ?_
   ·intro again i s h0 h1
    have hmem : ym t i ∈ t := yN zg t i h0 h1
    obtain ⟨hn, hss⟩ := ht.node hmem
    have hw : Go.IntKind.wrap .i64 (i + 1) = i + 1 := w64 (by omega) (by omega)
    have hm : Go.IntKind.wrap .i64 (i - 1) = i - 1 := w64 (by omega) (by omega)
    have e3 := y5G (ym t i) (by omega) (fun s hh => by have := hss s hh; omega)
    have e4 := y3w q t i ht h0 h1 hq
    have e5 : zT (ym t i) = some (VA (ym t i)) := QL _ (by omega) (ht.sumK hmem)
    unfold jU y0H ynx ybV ygD y55
    have hx : t.getD i.toNat zg = ym t i := rfl
    have e1 : q.getD i.toNat 0 = zy q i := rfl
    have e2 : q.getD (i - 1).toNat 0 = zy q (i - 1) := rfl
    rw [hx, e1, e2]
    simp only [Bool.cond_eq_ite, decide_eq_true_eq, h0, h1, if_true, hw, hm, e3, e4, e5, gt_iff_lt, Option.bind_some]
    by_cases h5 : 0 < i
    ·rw [if_pos h5, if_pos (by omega), if_pos (by omega), if_pos (by omega)]
     simp only [h5, decide_true, Option.bind_some, Bool.true_and, if_true]
     cases decide (zy q (i - 1) ≥ zy q i) <;> cases K3 (ym t i) <;> cases zN (ygC q i) (ym t i) 0 <;> cases (((VA (ym t i)).length : Int) == 0) <;> rfl
    ·rw [if_neg h5]
     simp only [h5, decide_false, Option.bind_some, Bool.false_and, if_false]
     cases K3 (ym t i) <;> cases zN (ygC q i) (ym t i) 0 <;> rfl
   ·intro again i s hi
    unfold jU
    simp only [Bool.cond_eq_ite, decide_eq_true_eq, if_neg hi]
   ·have := ygE t [] (by have := ht.sum; simpa using this)
    simp only [List.length_nil] at this
    rw [show ((0 : Nat) : Int) = 0 from rfl] at this
    rw [this]
    unfold QR
    cases zN (y0H q) t 0 <;> rfl
  ·have hz1 : (q.getD 0 0 != 0) = true := by simpa using hz
   have hz2 : (q.getD 0 0 == 0) = false := by simpa using hz
   rw [hz1, hz2]
   rfl
 ·have hq' : ((q.length : Int) != (t.length : Int)) = true := by
   simp only [bne_iff_ne, ne_eq]
   omega
  have hd : decide (q.length = t.length) = false := by simp [hq]
  simp only [hq', hd, Bool.not_true, cond_false, cond_true, Option.bind_some, Bool.false_and, Bool.and_false]
end Go.Proofs.YtmapoakbdgpamaaGreat.Pl
namespace Go.Proofs.YtmapoakbdgpamaaGreat.Pl
open Go.Proofs.YtmapoakbdgpamaaGreat.R Go.Proofs.YtmapoakbdgpamaaGreat.XQ
def isW (n : Int) : Bool := inR n 0 65535
theorem ygF (x : Int) : Wn x = some (isW x) := by unfold Wn; rw [ZH]; rfl
theorem ygG (x : Int) : WC x = some (isW x) := by unfold WC; rw [zV]; rfl
def y91 (c : Int) : Bool := inR c 97 122 || inR c 48 57
def Qk (l : List UInt8) : Bool := l.all fun c => y91 (c.toNat : Int)
def y3f (s : ByteArray) : Bool := Qk s.data.toList && inR s.size 1 6
theorem ydg (c : UInt8) : Go.IntKind.wrap .i64 (c.toNat : Int) = c.toNat := by
 have := c.toNat_lt
 exact w64 (by omega) (by omega)
theorem yj6 (s : ByteArray) (i : Nat) (h : i < s.size) : ByteArray.get s i h = s.data.toList[i]'(by rw [Array.length_toList]; exact h) := by
 rw [Array.getElem_toList]
 rfl
theorem yal (s : ByteArray) (i : Nat) (h : i < s.size) : s.data.toList.drop i = ByteArray.get s i h :: s.data.toList.drop (i + 1) := by
 rw [yj6, ← List.drop_eq_getElem_cons]
theorem y5K (s : ByteArray) (hs : s.size ≤ maxLen) : Wo s = some (y3f s) := by
 have hm : (s.size : Int) ≤ 9223372036854775807 := by simp only [maxLen] at hs; omega
 unfold Wo y0l
 rw [zU (fun t : ByteArray × Int => t.1.size - t.2.toNat) (fun t => t.1 = s ∧ 0 ≤ t.2 ∧ t.2 ≤ s.size) (fun t => if Qk (t.1.data.toList.drop t.2.toNat) then some (inR s.size 1 6) else some false) ?_ (s, 0) ⟨rfl, by simp, by simp⟩ (by simp only [maxLen] at hs; simp; omega)]
 ·unfold y3f
  cases h : Qk s.data.toList <;> simp [h]
 ·rintro again ⟨s', i⟩ ⟨rfl, h0, h1⟩ hag
  simp only at h0 h1 hs hm ⊢
  unfold Vg
  simp only [Bool.cond_eq_ite, decide_eq_true_eq]
  by_cases hi : i < (s'.size : Int)
  ·have hn : i.toNat < s'.size := by omega
   rw [if_pos hi, if_pos h0, dif_pos hn]
   simp only [ZH, Option.bind_some, if_pos h0, dif_pos hn, ydg]
   rw [yal s' i.toNat hn]
   have hw : Go.IntKind.wrap .i64 (i + 1) = i + 1 := w64 (by omega) (by omega)
   have e1 : (i + 1).toNat = i.toNat + 1 := by omega
   have hag' := hag (s', i + 1) ⟨rfl, by simp only; omega, by simp only; omega⟩ (by simp only; omega)
   simp only [Qk, List.all_cons, y91] at hag' ⊢
   rw [hw, hag', e1]
   obtain ⟨c, hc⟩ : ∃ c, ByteArray.get s' i.toNat hn = c := ⟨_, rfl⟩
   simp only [hc]
   cases inR (c.toNat : Int) 97 122 <;> cases inR (c.toNat : Int) 48 57 <;> simp
  ·rw [if_neg hi, List.drop_of_length_le (by rw [Array.length_toList]; show s'.size ≤ _; omega)]
   simp [Qk, ZH]
theorem y5L (s : ByteArray) (hs : s.size ≤ maxLen) : WD s = some (y3f s) := by
 have hm : (s.size : Int) ≤ 9223372036854775807 := by simp only [maxLen] at hs; omega
 unfold WD y0w
 rw [zU (fun t : ByteArray × Int => t.1.size - t.2.toNat) (fun t => t.1 = s ∧ 0 ≤ t.2 ∧ t.2 ≤ s.size) (fun t => if Qk (t.1.data.toList.drop t.2.toNat) then some (inR s.size 1 6) else some false) ?_ (s, 0) ⟨rfl, by simp, by simp⟩ (by simp only [maxLen] at hs; simp; omega)]
 ·unfold y3f
  cases h : Qk s.data.toList <;> simp [h]
 ·rintro again ⟨s', i⟩ ⟨rfl, h0, h1⟩ hag
  simp only at h0 h1 hs hm ⊢
  unfold Vp
  simp only [Bool.cond_eq_ite, decide_eq_true_eq]
  by_cases hi : i < (s'.size : Int)
  ·have hn : i.toNat < s'.size := by omega
   rw [if_pos hi, if_pos h0, dif_pos hn]
   simp only [zV, Option.bind_some, if_pos h0, dif_pos hn, ydg]
   rw [yal s' i.toNat hn]
   have hw : Go.IntKind.wrap .i64 (i + 1) = i + 1 := w64 (by omega) (by omega)
   have e1 : (i + 1).toNat = i.toNat + 1 := by omega
   have hag' := hag (s', i + 1) ⟨rfl, by simp only; omega, by simp only; omega⟩ (by simp only; omega)
   simp only [Qk, List.all_cons, y91] at hag' ⊢
   rw [hw, hag', e1]
   obtain ⟨c, hc⟩ : ∃ c, ByteArray.get s' i.toNat hn = c := ⟨_, rfl⟩
   simp only [hc]
   cases inR (c.toNat : Int) 97 122 <;> cases inR (c.toNat : Int) 48 57 <;> simp
  ·rw [if_neg hi, List.drop_of_length_le (by rw [Array.length_toList]; show s'.size ≤ _; omega)]
   simp [Qk, zV]
end Go.Proofs.YtmapoakbdgpamaaGreat.Pl
namespace Go.Proofs.YtmapoakbdgpamaaGreat.Pl
open Go.Proofs.YtmapoakbdgpamaaGreat.R Go.Proofs.YtmapoakbdgpamaaGreat.XQ
def ygH (l : List yo) (i : Int) : List yo := List.drop (Int.toNat (0 : Int)) (List.take (Int.toNat i) l)
def ybW (l : List yo) (i : Int) (a : yo) : Bool := !inR a.1 1 60 || ((decide (0 < i) && decide ((l.getD (i - 1).toNat WU).1 ≥ a.1)) || (a.2 != 0 && decide (Kp (ygH l i) a.2 < 0)))
def qt (l : List yo) : Bool := !zN (ybW l) l 0 && decide ((l.length : Int) ≤ 16)
theorem ydh (l : List yo) (i : Int) : (ygH l i).length ≤ l.length := by
 unfold ygH
 simp only [List.length_drop, List.length_take]
 omega
theorem y5M (l : List yo) (hl : l.length ≤ 1048576) : Wm l = some (qt l) := by
 unfold Wm y0k qt
 refine (zc (step := jN _ _) (fun i => (l, i)) (ybW l) (some false) (some (decide ((l.length : Int) ≤ 16))) WU l (by omega) ?_ ?_).trans ?_
 ·intro again i h0 h1
  have hw : Go.IntKind.wrap .i64 (i + 1) = i + 1 := w64 (by omega) (by omega)
  have hm : Go.IntKind.wrap .i64 (i - 1) = i - 1 := w64 (by omega) (by omega)
  unfold jN ybW
  obtain ⟨⟨x1, x2⟩, hx⟩ : ∃ x, z6 l i = x := ⟨_, rfl⟩
  have hx' : l.getD i.toNat WU = (x1, x2) := hx
  have hy : l.getD (i - 1).toNat WU = z6 l (i - 1) := rfl
  have e : Zp (List.drop (Int.toNat (0 : Int)) (List.take (Int.toNat i) l), x2) = some (Kp (ygH l i) x2) := Qi (ygH l i) x2 (by have := ydh l i; omega)
  rw [hx', hy]
  have h2 : i ≤ (l.length : Int) := by omega
  simp only [Bool.cond_eq_ite, decide_eq_true_eq, h0, h1, h2, if_true, hw, hm, hx, ZH, e, Option.bind_some, Int.le_refl, gt_iff_lt]
  cases inR x1 1 60
  ·rfl
  ·by_cases h5 : 0 < i
   ·have h3 : 0 ≤ i - 1 := by omega
    have h4 : i - 1 < (l.length : Int) := by omega
    simp only [h5, h3, h4, if_true, decide_true]
    cases decide ((z6 l (i - 1)).1 ≥ x1) <;> cases (x2 != 0) <;> cases decide (Kp (ygH l i) x2 < 0) <;> rfl
   ·simp only [h5, if_false, decide_false]
    cases (x2 != 0) <;> cases decide (Kp (ygH l i) x2 < 0) <;> rfl
 ·intro again i hi
  unfold jN
  simp only [Bool.cond_eq_ite, decide_eq_true_eq, if_neg hi]
 ·cases zN (ybW l) l 0 <;> rfl
theorem y5N (l : List yo) (hl : l.length ≤ 1048576) : WB l = some (qt l) := by
 unfold WB y0v qt
 refine (zc (step := jV _ _) (fun i => (l, l, (l.length : Int), i)) (ybW l) (some false) (some (decide ((l.length : Int) ≤ 16))) WU l (by omega) ?_ ?_).trans ?_
 ·intro again i h0 h1
  have hw : Go.IntKind.wrap .i64 (i + 1) = i + 1 := w64 (by omega) (by omega)
  have hm : Go.IntKind.wrap .i64 (i - 1) = i - 1 := w64 (by omega) (by omega)
  unfold jV ybW
  obtain ⟨⟨x1, x2⟩, hx⟩ : ∃ x, z6 l i = x := ⟨_, rfl⟩
  have hx' : l.getD i.toNat WU = (x1, x2) := hx
  have hy : l.getD (i - 1).toNat WU = z6 l (i - 1) := rfl
  have e : Zq (List.drop (Int.toNat (0 : Int)) (List.take (Int.toNat i) l), x2) = some (Kp (ygH l i) x2) := Qj (ygH l i) x2 (by have := ydh l i; omega)
  rw [hx', hy]
  have h2 : i ≤ (l.length : Int) := by omega
  simp only [Bool.cond_eq_ite, decide_eq_true_eq, h0, h1, h2, if_true, hw, hm, hx, zV, e, Option.bind_some, Int.le_refl, gt_iff_lt]
  cases inR x1 1 60
  ·rfl
  ·by_cases h5 : 0 < i
   ·have h3 : 0 ≤ i - 1 := by omega
    have h4 : i - 1 < (l.length : Int) := by omega
    simp only [h5, h3, h4, if_true, decide_true]
    cases decide ((z6 l (i - 1)).1 ≥ x1) <;> cases (x2 != 0) <;> cases decide (Kp (ygH l i) x2 < 0) <;> rfl
   ·simp only [h5, if_false, decide_false]
    cases (x2 != 0) <;> cases decide (Kp (ygH l i) x2 < 0) <;> rfl
 ·intro again i hi
  unfold jV
  simp only [Bool.cond_eq_ite, decide_eq_true_eq, if_neg hi]
 ·cases zN (ybW l) l 0 <;> rfl
def y2d (id : Int) (s : List Int) (a : yo) : List Int := if (a.2 == id && id != 0) = true then s ++ [a.1] else s
def y1h (l : List yo) (id : Int) : List Int := l.foldl (y2d id) []
theorem y6F (id : Int) (s : List Int) (a : yo) : (y2d id s a).length ≤ s.length + 1 := by
 unfold y2d
 split <;> simp
theorem y5O (l : List yo) (id : Int) (hl : l.length ≤ 1048576) : Wp (l, id) = some (y1h l id) := by
 unfold Wp y0m y1h
 refine Yp (step := jO _) (fun (i : Int) (s : List Int) => (l, id, i, s)) (fun s => some s) WU (y2d id) l (by omega) (fun i s => s.length ≤ i) ?_ ?_ [] (by simp)
 ·intro again i s h0 h1 hI
  have hw : Go.IntKind.wrap .i64 (i + 1) = i + 1 := w64 (by omega) (by omega)
  have hs := y6F id s (l.getD i.toNat WU)
  refine ⟨?_, by omega⟩
  have c1 : (s.length + 1) * 8 < 140737488355328 := by omega
  clear hs
  unfold jO y2d
  obtain ⟨⟨x1, x2⟩, hx⟩ : ∃ x, z6 l i = x := ⟨_, rfl⟩
  have hx' : l.getD i.toNat WU = (x1, x2) := hx
  rw [hx']
  simp only [Bool.cond_eq_ite, decide_eq_true_eq, h0, h1, if_true, hw, hx, List.length_cons, List.length_nil, Nat.zero_add, c1]
  cases (x2 == id) <;> cases (id != 0) <;> rfl
 ·intro again i s hi
  unfold jO
  simp only [Bool.cond_eq_ite, decide_eq_true_eq, if_neg hi]
theorem ygI (l : List yo) : y1h l 0 = [] := by
 have : ∀ (l : List yo) (s : List Int), l.foldl (y2d 0) s = s := by
  intro l
  induction l with
  | nil => intro s; rfl
  | cons a l ih =>
   intro s
   rw [List.foldl_cons, ih]
   unfold y2d
   simp
 exact this l []
theorem y5P (l : List yo) (id : Int) (hl : l.length ≤ 1048576) : WE (l, id) = some (y1h l id) := by
 unfold WE
 by_cases hid : id = 0
 ·subst hid
  rw [ygI]
  rfl
 ·have hid1 : (id == 0) = false := by simpa using hid
  have hid2 : (id != 0) = true := by simpa using hid
  simp only [hid1, cond_false]
  unfold y0x y1h
  refine Yp (step := jW _) (fun (i : Int) (s : List Int) => (id, l, (l.length : Int), i, s)) (fun s => some s) WU (y2d id) l (by omega) (fun i s => s.length ≤ i) ?_ ?_ [] (by simp)
  ·intro again i s h0 h1 hI
   have hw : Go.IntKind.wrap .i64 (i + 1) = i + 1 := w64 (by omega) (by omega)
   have hs := y6F id s (l.getD i.toNat WU)
   refine ⟨?_, by omega⟩
   have c1 : (s.length + 1) * 8 < 140737488355328 := by omega
   clear hs
   unfold jW y2d
   obtain ⟨⟨x1, x2⟩, hx⟩ : ∃ x, z6 l i = x := ⟨_, rfl⟩
   have hx' : l.getD i.toNat WU = (x1, x2) := hx
   rw [hx']
   simp only [Bool.cond_eq_ite, decide_eq_true_eq, h0, h1, if_true, hw, hx, List.length_cons, List.length_nil, Nat.zero_add, c1, hid2]
   cases (x2 == id) <;> rfl
  ·intro again i s hi
   unfold jW
   simp only [Bool.cond_eq_ite, decide_eq_true_eq, if_neg hi]
def ybX (_ : Int) (a : yb) : Bool := !inR a.1 0 999 || (!isW a.2.2 || (!a.2.1 && a.2.2 != 0))
def WQ (l : List yb) : Bool := !zN ybX l 0 && ((l.length : Int) == 24)
theorem y56 (l : List yb) (hl : l.length ≤ 1048576) : JF l = some (WQ l) := by
 unfold JF QD WQ
 refine (zc (step := ZP _ _) (fun i => (l, i)) ybX (some false) (some ((l.length : Int) == 24)) wI l (by omega) ?_ ?_).trans ?_
 ·intro again i h0 h1
  have hw : Go.IntKind.wrap .i64 (i + 1) = i + 1 := w64 (by omega) (by omega)
  unfold ZP ybX
  obtain ⟨⟨x1, x2, x3⟩, hx⟩ : ∃ x, yl l i = x := ⟨_, rfl⟩
  have hx' : l.getD i.toNat wI = (x1, x2, x3) := hx
  rw [hx']
  simp only [Bool.cond_eq_ite, decide_eq_true_eq, h0, h1, if_true, hw, hx, ZH, ygF, Option.bind_some]
  cases inR x1 0 999 <;> cases isW x3 <;> cases x2 <;> cases (x3 != 0) <;> rfl
 ·intro again i hi
  unfold ZP
  simp only [Bool.cond_eq_ite, decide_eq_true_eq, if_neg hi]
 ·cases zN ybX l 0 <;> rfl
theorem y57 (l : List yb) (hl : l.length ≤ 1048576) : JO l = some (WQ l) := by
 unfold JO QH WQ
 refine (zc (step := ZW _ _) (fun i => (l, l, (l.length : Int), i)) ybX (some false) (some ((l.length : Int) == 24)) wI l (by omega) ?_ ?_).trans ?_
 ·intro again i h0 h1
  have hw : Go.IntKind.wrap .i64 (i + 1) = i + 1 := w64 (by omega) (by omega)
  unfold ZW ybX
  obtain ⟨⟨x1, x2, x3⟩, hx⟩ : ∃ x, yl l i = x := ⟨_, rfl⟩
  have hx' : l.getD i.toNat wI = (x1, x2, x3) := hx
  rw [hx']
  simp only [Bool.cond_eq_ite, decide_eq_true_eq, h0, h1, if_true, hw, hx, zV, ygG, Option.bind_some]
  cases inR x1 0 999 <;> cases isW x3 <;> cases x2 <;> cases (x3 != 0) <;> rfl
 ·intro again i hi
  unfold ZW
  simp only [Bool.cond_eq_ite, decide_eq_true_eq, if_neg hi]
 ·cases zN ybX l 0 <;> rfl
def y58 (s : Int) (a : yb) : Int := if a.2.1 = true then Go.IntKind.wrap .i64 (s + 1) else s
def yam (l : List yb) : Int := l.foldl y58 0
theorem yan (l : List yb) (hl : l.length ≤ 1048576) : ZS l = some (yam l) := by
 unfold ZS q9 yam
 refine Yp (step := YE _) (fun (i s : Int) => (l, s, i)) (fun s => some s) wI y58 l (by omega) (fun _ _ => True) ?_ ?_ 0 trivial
 ·intro again i s h0 h1 _
  have hw : Go.IntKind.wrap .i64 (i + 1) = i + 1 := w64 (by omega) (by omega)
  refine ⟨?_, trivial⟩
  unfold YE y58
  obtain ⟨⟨x1, x2, x3⟩, hx⟩ : ∃ x, yl l i = x := ⟨_, rfl⟩
  have hx' : l.getD i.toNat wI = (x1, x2, x3) := hx
  rw [hx']
  simp only [Bool.cond_eq_ite, decide_eq_true_eq, h0, h1, if_true, hw, hx]
  cases x2 <;> rfl
 ·intro again i s hi
  unfold YE
  simp only [Bool.cond_eq_ite, decide_eq_true_eq, if_neg hi]
theorem yao (l : List yb) (hl : l.length ≤ 1048576) : ZX l = some (yam l) := by
 unfold ZX qc yam
 refine Yp (step := YG _) (fun (i s : Int) => (s, l, (l.length : Int), i)) (fun s => some s) wI y58 l (by omega) (fun _ _ => True) ?_ ?_ 0 trivial
 ·intro again i s h0 h1 _
  have hw : Go.IntKind.wrap .i64 (i + 1) = i + 1 := w64 (by omega) (by omega)
  refine ⟨?_, trivial⟩
  unfold YG y58
  obtain ⟨⟨x1, x2, x3⟩, hx⟩ : ∃ x, yl l i = x := ⟨_, rfl⟩
  have hx' : l.getD i.toNat wI = (x1, x2, x3) := hx
  rw [hx']
  simp only [Bool.cond_eq_ite, decide_eq_true_eq, h0, h1, if_true, hw, hx]
  cases x2 <;> rfl
 ·intro again i s hi
  unfold YG
  simp only [Bool.cond_eq_ite, decide_eq_true_eq, if_neg hi]
def qu (l : List yb) (i gen : Int) : Int × Bool :=
 if inR i 0 ((l.length : Int) - 1) && ((l.getD i.toNat wI).2.1 && ((l.getD i.toNat wI).1 == gen)) then ((l.getD i.toNat wI).2.2, true) else (0, false)
theorem y1i (l : List yb) (i gen : Int) (hl : l.length ≤ 1048576) : Jf (l, i, gen) = some (qu l i gen) := by
 unfold Jf qu
 have hm : Go.IntKind.wrap .i64 ((l.length : Int) - 1) = (l.length : Int) - 1 := w64 (by omega) (by omega)
 obtain ⟨⟨x1, x2, x3⟩, hx⟩ : ∃ x, yl l i = x := ⟨_, rfl⟩
 have hx' : l.getD i.toNat wI = (x1, x2, x3) := hx
 rw [hx']
 simp only [hm, hx, ZH, Option.bind_some]
 by_cases hr : inR i 0 ((l.length : Int) - 1) = true
 ·obtain ⟨h0, h1⟩ := Zk.1 hr
  rw [hr, if_pos h0, if_pos (by omega), if_pos h0, if_pos (by omega), if_pos h0, if_pos (by omega)]
  by_cases hg : x1 = gen
  ·have g1 : (x1 != gen) = false := by simp [hg]
   have g2 : (x1 == gen) = true := by simp [hg]
   rw [g1, g2]
   cases x2 <;> rfl
  ·have g1 : (x1 != gen) = true := by simpa using hg
   have g2 : (x1 == gen) = false := by simpa using hg
   rw [g1, g2]
   cases x2 <;> rfl
 ·have : inR i 0 ((l.length : Int) - 1) = false := by simpa using hr
  rw [this]
  rfl
theorem y5Q (l : List yb) (i gen : Int) (hl : l.length ≤ 1048576) : WH (l, i, gen) = some (qu l i gen) := by
 rw [← y1i l i gen hl]
 unfold WH Jf
 simp only [zV, ZH]
end Go.Proofs.YtmapoakbdgpamaaGreat.Pl
namespace Go.Proofs.YtmapoakbdgpamaaGreat.Pl
open Go.Proofs.YtmapoakbdgpamaaGreat.R Go.Proofs.YtmapoakbdgpamaaGreat.XQ
theorem ydi {A : Type} (p : A → Bool) : ∀ (l : List A) (i j : Int), 0 ≤ i → decide (0 ≤ QS p l i) = zN (fun _ a => p a) l j
 | [], i, j, _ => rfl
 | a :: l, i, j, h => by
  rw [QS, zN, ← ydi p l (i + 1) (j + 1) (by omega)]
  cases p a with
  | true => simp [h]
  | false => rfl
theorem yap {A : Type} (da : A) (l : List A) (i j : Int) (h0 : 0 ≤ j) (h : j < i) : (l.take i.toNat).getD j.toNat da = l.getD j.toNat da := by
 rw [List.getD_eq_getElem?_getD, List.getD_eq_getElem?_getD, List.getElem?_take, if_pos (by omega)]
theorem ydj {A : Type} (l : List A) (i : Int) (h0 : 0 ≤ i) (h : i ≤ (l.length : Int)) : ((l.take i.toNat).length : Int) = i := by
 rw [List.length_take]
 omega
def qv (age : Int) (_ : Int) (u : yA) : Bool := u.2.1 == age
def ykK (vs : List yA) (l : List yo) (i : Int) (v : yA) : Bool :=
 !y3f v.1 || (!inR v.2.2.1 1 12 || (decide (Kp l v.2.1 < 0) || (decide (((y1h l v.2.1).length : Int) > 0) || ((decide (0 < i) && !Go.Op.bytesLess (ByteArray.toList (vs.getD (i - 1).toNat qg).1) (ByteArray.toList v.1)) || zN (qv v.2.1) (vs.take i.toNat) 0))))
def qw (vs : List yA) (l : List yo) : Bool := !zN (ykK vs l) vs 0 && decide ((vs.length : Int) ≤ 6)
theorem y59 {R : Type} (k0 : (Bool × Int × List yp × List y7 × List yo × List yb × List yA × Int) → Option R) (k1 : (Int × List yp × List y7 × List yo × List yb × List yA × Int) → Option R) (i : Int) (q : List Int) (t : List y7) (l : List yo) (cs : List yb) (vs : List yA) (z : Int) (v1 : ByteArray) (v2 v3 : Int) (v4 : Bool) (h0 : 0 ≤ i) (h1 : i ≤ (vs.length : Int)) (hv : vs.length ≤ 1048576) :
  KO k0 k1 (i, 0, q, t, l, cs, vs, z, v1, v2, v3, v4) = if zN (qv v2) (vs.take i.toNat) 0 = true then k0 (false, i, q, t, l, cs, vs, z) else k1 (i, q, t, l, cs, vs, z) := by
 unfold KO
 have hlen := ydj vs i h0 h1
 refine zc (step := ZQ k0 k1) (fun k => (i, k, q, t, l, cs, vs, z, v1, v2, v3, v4)) (qv v2) _ _ qg (vs.take i.toNat) (by omega) ?_ ?_
 ·intro again k hk0 hk1
  rw [hlen] at hk1
  have hw : Go.IntKind.wrap .i64 (k + 1) = k + 1 := w64 (by omega) (by omega)
  have hk2 : k < (vs.length : Int) := by omega
  unfold ZQ qv
  rw [yap qg vs i k hk0 hk1]
  have hx : vs.getD k.toNat qg = yn vs k := rfl
  rw [hx]
  simp only [Bool.cond_eq_ite, decide_eq_true_eq, hk0, hk1, hk2, if_true, hw]
 ·intro again k hk
  rw [hlen] at hk
  unfold ZQ
  simp only [Bool.cond_eq_ite, decide_eq_true_eq, if_neg hk]
theorem yaq (q : List Int) (t : List y7) (l : List yo) (cs : List yb) (vs : List yA) (z : Int) (hl : l.length ≤ 1048576) (hv : vs.length ≤ 1048576) (hvn : ∀ v ∈ vs, ByteArray.size v.1 ≤ maxLen) : JG (q, t, l, cs, vs, z) = some (qw vs l) := by
 unfold JG QE qw
 refine (zc (step := ZR _ _) (fun i => (i, q, t, l, cs, vs, z)) (ykK vs l) (some false) (some (decide ((vs.length : Int) ≤ 6))) qg vs (by omega) ?_ ?_).trans ?_
 ·intro again i h0 h1
  have hw : Go.IntKind.wrap .i64 (i + 1) = i + 1 := w64 (by omega) (by omega)
  have hm : Go.IntKind.wrap .i64 (i - 1) = i - 1 := w64 (by omega) (by omega)
  have hmem := hvn _ (yN qg vs i h0 h1)
  unfold ZR ykK
  obtain ⟨⟨x1, x2, x3, x4⟩, hx⟩ : ∃ x, yn vs i = x := ⟨_, rfl⟩
  have hx' : vs.getD i.toNat qg = (x1, x2, x3, x4) := hx
  have hy : vs.getD (i - 1).toNat qg = yn vs (i - 1) := rfl
  rw [hx'] at hmem
  rw [hx', hy]
  have e1 := y5K x1 hmem
  have e2 := Qi l x2 (by omega)
  have e3 := y5O l x2 hl
  simp only [Bool.cond_eq_ite, decide_eq_true_eq, h0, h1, if_true, hw, hm, hx, ZH, e1, e2, e3, y59 _ _ i q t l cs vs z x1 x2 x3 x4 h0 (by omega) hv, Option.bind_some, gt_iff_lt]
  cases y3f x1
  ·rfl
  by_cases h5 : 0 < i
  ·have h3 : 0 ≤ i - 1 := by omega
   have h4 : i - 1 < (vs.length : Int) := by omega
   simp only [h5, h3, h4, if_true, decide_true]
   by_cases ha : Kp l x2 < 0 <;> by_cases hk : (0 : Int) < ((y1h l x2).length : Int) <;> simp only [ha, hk, if_true, if_false, decide_true, decide_false] <;> cases Go.Op.bytesLess (ByteArray.toList (yn vs (i - 1)).1) (ByteArray.toList x1) <;> cases inR x3 1 12 <;> cases zN (qv x2) (vs.take i.toNat) 0 <;> rfl
  ·simp only [h5, if_false, decide_false]
   by_cases ha : Kp l x2 < 0 <;> by_cases hk : (0 : Int) < ((y1h l x2).length : Int) <;> simp only [ha, hk, if_true, if_false, decide_true, decide_false] <;> cases inR x3 1 12 <;> cases zN (qv x2) (vs.take i.toNat) 0 <;> rfl
 ·intro again i hi
  unfold ZR
  simp only [Bool.cond_eq_ite, decide_eq_true_eq, if_neg hi]
 ·cases zN (ykK vs l) vs 0 <;> rfl
theorem ybY (l : List yA) (v1 : ByteArray) (v2 v3 : Int) (v4 : Bool) (hl : l.length ≤ 1048576) : yx (l, v1, v2, v3, v4) = some (zN (qv v2) l 0, v1, v2, v3, v4) := by
 have key : yJ (l, v1, v2, v3, v4) = some (QS (fun u : yA => u.2.1 == v2) l 0, v1, v2, v3, v4) := by
  unfold yJ zX
  refine (y52 (step := yE _ _) (fun i => (l, (l.length : Int), i, v1, v2, v3, v4)) (fun u : yA => u.2.1 == v2) (fun x => some (x, v1, v2, v3, v4)) (some (-1, v1, v2, v3, v4)) qg l (by omega) ?_ ?_).trans ?_
  ·intro again i h0 h1
   have hw : Go.IntKind.wrap .i64 (i + 1) = i + 1 := w64 (by omega) (by omega)
   unfold yE WF
   simp only [Bool.cond_eq_ite, decide_eq_true_eq, h0, h1, if_true, hw, Option.bind_some]
   rfl
  ·intro again i hi
   unfold yE
   simp only [Bool.cond_eq_ite, decide_eq_true_eq, if_neg hi]
  ·rcases y2J (fun u : yA => u.2.1 == v2) qg l 0 (Int.le_refl _) with h | ⟨h1, h2, h3⟩
   ·rw [h]
    rfl
   ·rw [if_neg (by omega)]
 unfold yx
 rw [key]
 simp only [Option.bind_some, ge_iff_le]
 rw [ydi _ l 0 0 (Int.le_refl _)]
 rfl
theorem yar (q : List Int) (t : List y7) (l : List yo) (cs : List yb) (vs : List yA) (z : Int) (hl : l.length ≤ 1048576) (hv : vs.length ≤ 1048576) (hvn : ∀ v ∈ vs, ByteArray.size v.1 ≤ maxLen) : WG (q, t, l, cs, vs, z) = some (qw vs l) := by
 unfold WG y0y qw
 refine (zc (step := jX _ _) (fun i => (vs, (vs.length : Int), i, q, t, l, cs, vs, z)) (ykK vs l) (some false) (some (decide ((vs.length : Int) ≤ 6))) qg vs (by omega) ?_ ?_).trans ?_
 ·intro again i h0 h1
  have hw : Go.IntKind.wrap .i64 (i + 1) = i + 1 := w64 (by omega) (by omega)
  have hm : Go.IntKind.wrap .i64 (i - 1) = i - 1 := w64 (by omega) (by omega)
  have hmem := hvn _ (yN qg vs i h0 h1)
  unfold jX ykK
  obtain ⟨⟨x1, x2, x3, x4⟩, hx⟩ : ∃ x, yn vs i = x := ⟨_, rfl⟩
  have hx' : vs.getD i.toNat qg = (x1, x2, x3, x4) := hx
  have hy : vs.getD (i - 1).toNat qg = yn vs (i - 1) := rfl
  rw [hx'] at hmem
  rw [hx', hy]
  have e1 := y5L x1 hmem
  have e2 := Qj l x2 (by omega)
  have e3 := y5P l x2 hl
  have e4 : yx (List.drop (Int.toNat (0 : Int)) (List.take (Int.toNat i) vs), x1, x2, x3, x4) = some (zN (qv x2) (vs.take i.toNat) 0, x1, x2, x3, x4) := ybY (vs.take i.toNat) x1 x2 x3 x4 (by simp only [List.length_take]; omega)
  have h2 : i ≤ (vs.length : Int) := by omega
  simp only [Bool.cond_eq_ite, decide_eq_true_eq, h0, h1, h2, if_true, hw, hm, hx, zV, e1, e2, e3, e4, Option.bind_some, gt_iff_lt, Int.le_refl]
  cases y3f x1
  ·rfl
  by_cases h5 : 0 < i
  ·have h3 : 0 ≤ i - 1 := by omega
   have h4 : i - 1 < (vs.length : Int) := by omega
   simp only [h5, h3, h4, if_true, decide_true]
   by_cases ha : Kp l x2 < 0 <;> by_cases hk : (0 : Int) < ((y1h l x2).length : Int) <;> simp only [ha, hk, if_true, if_false, decide_true, decide_false] <;> cases Go.Op.bytesLess (ByteArray.toList (yn vs (i - 1)).1) (ByteArray.toList x1) <;> cases inR x3 1 12 <;> cases zN (qv x2) (vs.take i.toNat) 0 <;> rfl
  ·simp only [h5, if_false, decide_false]
   by_cases ha : Kp l x2 < 0 <;> by_cases hk : (0 : Int) < ((y1h l x2).length : Int) <;> simp only [ha, hk, if_true, if_false, decide_true, decide_false] <;> cases inR x3 1 12 <;> cases zN (qv x2) (vs.take i.toNat) 0 <;> rfl
 ·intro again i hi
  unfold jX
  simp only [Bool.cond_eq_ite, decide_eq_true_eq, if_neg hi]
 ·cases zN (ykK vs l) vs 0 <;> rfl
end Go.Proofs.YtmapoakbdgpamaaGreat.Pl
namespace Go.Proofs.YtmapoakbdgpamaaGreat.Pl
open Go.Proofs.YtmapoakbdgpamaaGreat.R Go.Proofs.YtmapoakbdgpamaaGreat.XQ
def J4 (c : Int) (_ : Int) (u : y8) : Bool := (u.2.2.1 == 1) && (u.2.2.2.1 == c)
def yh5 (ks : List y8) (l : List yo) (cs : List yb) (i : Int) (a : y8) : Bool :=
 decide (Kp l a.2.1 < 0) || ((a.2.2.1 == 1) && (!(qu cs a.2.2.2.1 a.2.2.2.2).2 || zN (J4 a.2.2.2.1) (ks.take i.toNat) 0))
def y6G (n : Int) (a : y8) : Int := if (a.2.2.1 == 1) = true then Go.IntKind.wrap .i64 (n + 1) else n
def Ql (ks : List y8) (l : List yo) (cs : List yb) : Bool := !zN (yh5 ks l cs) ks 0 && (ks.foldl y6G 0 == yam cs)
theorem y5a {R : Type} (k0 : (Bool × Int × Int × List yp × List y7 × List yo × List yb × List yA × Int × List y8) → Option R) (k1 : (Int × Int × List yp × List y7 × List yo × List yb × List yA × Int × List y8) → Option R) (n i : Int) (q : List Int) (t : List y7) (l : List yo) (cs : List yb) (vs : List yA) (z : Int) (ks : List y8) (h0 : 0 ≤ i) (h1 : i < (ks.length : Int)) (hk : ks.length ≤ 1048576) :
  kw k0 k1 (n, i, 0, q, t, l, cs, vs, z, ks) = if zN (J4 (y0 ks i).2.2.2.1) (ks.take i.toNat) 0 = true then k0 (false, n, i, q, t, l, cs, vs, z, ks) else k1 (n, i, q, t, l, cs, vs, z, ks) := by
 unfold kw
 have hlen := ydj ks i h0 (by omega)
 refine zc (step := Z1 k0 k1) (fun k => (n, i, k, q, t, l, cs, vs, z, ks)) (J4 (y0 ks i).2.2.2.1) _ _ zv (ks.take i.toNat) (by omega) ?_ ?_
 ·intro again k hk0 hk1
  rw [hlen] at hk1
  have hw : Go.IntKind.wrap .i64 (k + 1) = k + 1 := w64 (by omega) (by omega)
  have hk2 : k < (ks.length : Int) := by omega
  unfold Z1 J4
  rw [yap zv ks i k hk0 hk1]
  have hx : ks.getD k.toNat zv = y0 ks k := rfl
  rw [hx]
  simp only [Bool.cond_eq_ite, decide_eq_true_eq, hk0, hk1, hk2, h0, h1, if_true, hw]
  cases ((y0 ks k).2.2.1 == 1) <;> cases ((y0 ks k).2.2.2.1 == (y0 ks i).2.2.2.1) <;> rfl
 ·intro again k hk
  rw [hlen] at hk
  unfold Z1
  simp only [Bool.cond_eq_ite, decide_eq_true_eq, if_neg hk]
theorem y5b (q : List Int) (t : List y7) (l : List yo) (cs : List yb) (vs : List yA) (z : Int) (ht : TOk t) (hl : l.length ≤ 1048576) (hc : cs.length ≤ 1048576) : JH (q, t, l, cs, vs, z) = some (Ql (QR t) l cs) := by
 unfold JH QG Ql
 have hk := ht.keys
 have e : zQ (q, t) = some (QR t) := QK q t (by have := ht.len; omega) ht.nodes ht.sum
 simp only [e, Option.bind_some]
 generalize QR t = ks at hk
 refine (y4b (step := ZT _ _) (fun (i n : Int) => (n, i, q, t, l, cs, vs, z, ks)) (yh5 ks l cs) y6G (some false) (fun n => some (n == yam cs)) zv ks (by omega) ?_ ?_ 0).trans ?_
 ·intro again i n h0 h1
  have hw : Go.IntKind.wrap .i64 (i + 1) = i + 1 := w64 (by omega) (by omega)
  unfold ZT yh5 y6G
  have hin := fun (k0 : (Bool × Int × Int × List yp × List y7 × List yo × List yb × List yA × Int × List y8) → Option Bool) k1 m => y5a k0 k1 m i q t l cs vs z ks h0 h1 hk
  obtain ⟨⟨x1, x2, x3, x4, x5⟩, hx⟩ : ∃ x, y0 ks i = x := ⟨_, rfl⟩
  have hx' : ks.getD i.toNat zv = (x1, x2, x3, x4, x5) := hx
  rw [hx']
  rw [hx] at hin
  have e1 := Qi l x2 (by omega)
  have e2 := y1i cs x4 x5 hc
  simp only [Bool.cond_eq_ite, decide_eq_true_eq, h0, h1, if_true, hw, hx, e1, e2, hin, Option.bind_some]
  by_cases ha : Kp l x2 < 0
  ·simp only [ha, if_true, decide_true, Bool.true_or]
  ·simp only [ha, if_false, decide_false, Bool.false_or]
   by_cases h3 : x3 = 1
   ·have g1 : (x3 == 1) = true := by simp [h3]
    have g2 : (x3 != 1) = false := by simp [h3]
    rw [g1, g2]
    cases (qu cs x4 x5).2 <;> cases zN (J4 x4) (ks.take i.toNat) 0 <;> rfl
   ·have g1 : (x3 == 1) = false := by simpa using h3
    have g2 : (x3 != 1) = true := by simpa using h3
    rw [g1, g2]
    rfl
 ·intro again i n hi
  unfold ZT
  simp only [Bool.cond_eq_ite, decide_eq_true_eq, if_neg hi, yan cs hc, Option.bind_some]
 ·cases zN (yh5 ks l cs) ks 0 <;> rfl
theorem ydk (c : Int) : ∀ (l : List y8) (i : Int) (j : Nat), j < l.length → zN (J4 c) (l.take (j + 1)) i = (zN (J4 c) (l.take j) i || J4 c 0 (l.getD j zv))
 | a :: l, i, 0, _ => by simp [zN, J4]
 | a :: l, i, j + 1, h => by
  have := ydk c l (i + 1) j (by simpa using h)
  rw [List.take_succ_cons, zN, this, List.take_succ_cons, zN, List.getD_cons_succ, Bool.or_assoc]
def yep (s : Int × List Bool) (a : y8) : Int × List Bool := (y6G s.1 a, if (a.2.2.1 == 1) = true then s.2.set a.2.2.2.1.toNat true else s.2)
theorem ykL : ∀ (l : List y8) (s : Int × List Bool), (l.foldl yep s).1 = l.foldl y6G s.1
 | [], _ => rfl
 | a :: l, s => ykL l (yep s a)
theorem y5c (q : List Int) (t : List y7) (l : List yo) (cs : List yb) (vs : List yA) (z : Int) (ht : TOk t) (hl : l.length ≤ 1048576) (hc : cs.length = 24) : JP (q, t, l, cs, vs, z) = some (Ql (QR t) l cs) := by
 unfold JP QI Ql
 have hk := ht.keys
 have e : Zc (q, t) = some (QR t) := y3v q t (by have := ht.len; omega) ht.nodes ht.sum
 rw [if_pos (by omega), if_pos (Int.le_refl _), if_pos (by omega)]
 simp only [e, Option.bind_some]
 generalize QR t = ks at hk
 refine (y54 (step := ZY _ _) (fun (i : Int) (s : Int × List Bool) => (s.1, (ks.length : Int), i, q, t, l, cs, vs, z, s.2, ks)) (fun i s a => if yh5 ks l cs i a = true then .error (some false) else .ok (yep s a)) (fun s => some (s.1 == yam cs)) zv ks (by omega) (fun j s => s.2.length = 24 ∧ ∀ c : Nat, c < 24 → s.2.getD c false = zN (J4 (c : Int)) (ks.take j) 0) ?_ ?_ 0 (Int.le_refl _) (0, List.replicate (Int.toNat 24) yfx) ⟨rfl, fun c hc => ?_⟩).trans ?_
 ·rintro again i ⟨n, tk⟩ h0 h1 ⟨hI1, hI2⟩
  simp only at hI1 hI2
  have hw : Go.IntKind.wrap .i64 (i + 1) = i + 1 := w64 (by omega) (by omega)
  obtain ⟨⟨x1, x2, x3, x4, x5⟩, hx⟩ : ∃ x, y0 ks i = x := ⟨_, rfl⟩
  have hx' : ks.getD i.toNat zv = (x1, x2, x3, x4, x5) := hx
  have hgd : ks.getD i.toNat zv = ks.getD i.toNat zv := rfl
  have e1 := Qj l x2 (by omega)
  have e2 := y5Q cs x4 x5 (by omega)
  have hcell : (qu cs x4 x5).2 = true → 0 ≤ x4 ∧ x4 < 24 := fun h => by
   unfold qu at h
   split at h
   ·rename_i hh
    simp only [Bool.and_eq_true] at hh
    have := Zk.1 hh.1
    omega
   ·cases h
  rw [hx']
  refine ⟨?_, fun s' hs' => ?_⟩
  ·unfold ZY yh5 yep y6G
   simp only [Bool.cond_eq_ite, decide_eq_true_eq, h0, h1, if_true, hw, hx, e1, e2, Option.bind_some]
   by_cases ha : Kp l x2 < 0
   ·simp only [ha, if_true, decide_true, Bool.true_or]
   ·simp only [ha, if_false, decide_false, Bool.false_or]
    by_cases h3 : x3 = 1
    ·have g1 : (x3 == 1) = true := by simp [h3]
     have g2 : (x3 != 1) = false := by simp [h3]
     rw [g1, g2]
     cases hok : (qu cs x4 x5).2 with
     | false => rfl
     | true =>
      obtain ⟨b0, b1⟩ := hcell hok
      have b2 : x4 < (tk.length : Int) := by omega
      have hrd : yfy tk x4 = zN (J4 x4) (ks.take i.toNat) 0 := by
       have := hI2 x4.toNat (by omega)
       rw [show ((x4.toNat : Nat) : Int) = x4 by omega] at this
       exact this
      simp only [b0, b2, if_true, hrd]
      cases zN (J4 x4) (ks.take i.toNat) 0 <;> rfl
    ·have g1 : (x3 == 1) = false := by simpa using h3
     have g2 : (x3 != 1) = true := by simpa using h3
     rw [g1, g2]
     rfl
  ·by_cases hb : yh5 ks l cs i (x1, x2, x3, x4, x5) = true
   ·rw [if_pos hb] at hs'
    cases hs'
   ·rw [if_neg hb] at hs'
    injection hs' with hs'
    subst hs'
    have hsucc : ∀ c : Int, zN (J4 c) (ks.take (i.toNat + 1)) 0 = (zN (J4 c) (ks.take i.toNat) 0 || J4 c 0 (x1, x2, x3, x4, x5)) := fun c => by
     rw [ydk c ks 0 i.toNat (by omega), hx']
    unfold yep
    simp only
    by_cases h3 : x3 = 1
    ·have g1 : (x3 == 1) = true := by simp [h3]
     simp only [g1, if_true]
     have hok : (qu cs x4 x5).2 = true := by
      unfold yh5 at hb
      simp only [g1] at hb
      cases hh : (qu cs x4 x5).2 with
      | true => rfl
      | false =>
       rw [hh] at hb
       simp at hb
     obtain ⟨b0, b1⟩ := hcell hok
     refine ⟨by simpa using hI1, fun c hc => ?_⟩
     rw [hsucc, ← hI2 c hc]
     unfold J4
     simp only [g1, Bool.true_and]
     rw [List.getD_eq_getElem?_getD, List.getD_eq_getElem?_getD]
     by_cases hcx : c = x4.toNat
     ·rw [← hcx, List.getElem?_set_self (by omega)]
      have : (x4 == (c : Int)) = true := by
       simp only [beq_iff_eq]
       omega
      rw [this]
      simp
     ·rw [List.getElem?_set_ne (fun h => hcx h.symm)]
      have : (x4 == (c : Int)) = false := by
       simp only [beq_eq_false_iff_ne, ne_eq]
       omega
      rw [this]
      simp
    ·have g1 : (x3 == 1) = false := by simpa using h3
     simp only [g1, Bool.false_eq_true, if_false]
     refine ⟨hI1, fun c hc => ?_⟩
     rw [hsucc, ← hI2 c hc]
     unfold J4
     simp only [g1, Bool.false_and, Bool.or_false]
 ·rintro again i ⟨n, tk⟩ hi
  unfold ZY
  simp only [Bool.cond_eq_ite, decide_eq_true_eq, if_neg hi, yao cs (by omega), Option.bind_some]
  rw [Bool.beq_comm]
 ·show (List.replicate 24 false).getD c false = _
  rw [List.getD_eq_getElem?_getD, List.getElem?_replicate]
  simp [zN, hc]
 ·have := y4a (yh5 ks l cs) yep (some false) (fun s : Int × List Bool => some (s.1 == yam cs)) ks 0 (0, List.replicate (Int.toNat 24) yfx)
  rw [show (0 : Int).toNat = 0 from rfl, List.drop_zero, this, ykL]
  cases zN (yh5 ks l cs) ks 0 <;> rfl
def y1C (z : Int) (_ : Int) (a : yo) : Bool := decide (a.1 ≥ z)
def J5 (q : List Int) (t : List y7) (l : List yo) (cs : List yb) (vs : List yA) (z : Int) : Bool :=
 VB q t && (qt l && (WQ cs && (inR z 1 61 && (!zN (y1C z) l 0 && (qw vs l && Ql (QR t) l cs)))))
theorem y1j (q : List Int) (t : List y7) (l : List yo) (cs : List yb) (vs : List yA) (z : Int) (ht : TOk t) (hl : l.length ≤ 1048576) (hc : cs.length ≤ 1048576) (hv : vs.length ≤ 1048576) (hvn : ∀ v ∈ vs, ByteArray.size v.1 ≤ maxLen) : Jg (q, t, l, cs, vs, z) = some (J5 q t l cs vs z) := by
 unfold Jg y0n J5
 refine (zc (step := jP _ _) (fun i => (i, q, t, l, cs, vs, z)) (y1C z) (some false) (some (VB q t && (qt l && (WQ cs && (inR z 1 61 && (qw vs l && Ql (QR t) l cs)))))) WU l (by omega) ?_ ?_).trans ?_
 ·intro again i h0 h1
  have hw : Go.IntKind.wrap .i64 (i + 1) = i + 1 := w64 (by omega) (by omega)
  unfold jP y1C
  have hx : l.getD i.toNat WU = z6 l i := rfl
  rw [hx]
  simp only [Bool.cond_eq_ite, decide_eq_true_eq, h0, h1, if_true, hw]
 ·intro again i hi
  unfold jP
  simp only [Bool.cond_eq_ite, decide_eq_true_eq, if_neg hi, y5I q t ht, y5M l hl, y56 cs hc, ZH, yaq q t l cs vs z hl hv hvn, y5b q t l cs vs z ht hl hc, Option.bind_some]
  cases VB q t <;> cases qt l <;> cases WQ cs <;> cases inR z 1 61 <;> cases qw vs l <;> rfl
 ·cases zN (y1C z) l 0 <;> cases VB q t <;> cases qt l <;> cases WQ cs <;> cases inR z 1 61 <;> rfl
theorem y1k (q : List Int) (t : List y7) (l : List yo) (cs : List yb) (vs : List yA) (z : Int) (ht : TOk t) (hl : l.length ≤ 1048576) (hc : cs.length ≤ 1048576) (hv : vs.length ≤ 1048576) (hvn : ∀ v ∈ vs, ByteArray.size v.1 ≤ maxLen) : Ji (q, t, l, cs, vs, z) = some (J5 q t l cs vs z) := by
 unfold Ji J5
 simp only [y5J q t ht, y5N l hl, y57 cs hc, zV, Option.bind_some]
 cases VB q t
 ·rfl
 cases qt l
 ·rfl
 cases hcc : WQ cs
 ·rfl
 cases inR z 1 61
 ·rfl
 have hc24 : cs.length = 24 := by
  unfold WQ at hcc
  simp only [Bool.and_eq_true, beq_iff_eq] at hcc
  omega
 simp only [Bool.not_true, cond_false, Option.bind_some, Bool.true_and]
 unfold y0z
 refine (zc (step := jY _ _) (fun i => (l, (l.length : Int), i, q, t, l, cs, vs, z)) (y1C z) (some false) (some (qw vs l && Ql (QR t) l cs)) WU l (by omega) ?_ ?_).trans ?_
 ·intro again i h0 h1
  have hw : Go.IntKind.wrap .i64 (i + 1) = i + 1 := w64 (by omega) (by omega)
  unfold jY y1C
  have hx : l.getD i.toNat WU = z6 l i := rfl
  rw [hx]
  simp only [Bool.cond_eq_ite, decide_eq_true_eq, h0, h1, if_true, hw]
 ·intro again i hi
  unfold jY
  simp only [Bool.cond_eq_ite, decide_eq_true_eq, if_neg hi, yar q t l cs vs z hl hv hvn, y5c q t l cs vs z ht hl hc24, Option.bind_some]
  cases qw vs l <;> rfl
 ·cases zN (y1C z) l 0 <;> rfl
end Go.Proofs.YtmapoakbdgpamaaGreat.Pl
