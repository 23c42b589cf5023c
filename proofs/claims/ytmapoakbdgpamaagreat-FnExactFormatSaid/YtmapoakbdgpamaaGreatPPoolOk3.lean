/- Base, Loops, Marks, MarkC, Rng, Pool, Keys, Tree, Seen, See, Whole, Walk, Oks, Trees, Names, PoolOk, PoolOk2, PoolOk3. No condition. -/
import Derived.Test.YtmapoakbdgpamaaGreatDN1
import Derived.Laws.BitsLemmas
set_option linter.all false
namespace Go.Proofs.YtmapoakbdgpamaaGreat.Pl
open Go.Proofs.YtmapoakbdgpamaaGreat.R Go.Proofs.YtmapoakbdgpamaaGreat.XN
theorem ykK {T R : Type} {step : (T → Option R) → T → Option R} (μ : T → Nat) (inv : T → Prop) (G : T → Option R)
  (h : ∀ again t, inv t → (∀ t', inv t' → μ t' < μ t → again t' = G t') → step again t = G t) : ∀ (n : Nat) (t : T), inv t → μ t < n → z6 step n t = G t := by
 intro n
 induction n with
 | zero => intro t _ hn; omega
 | succ n ih =>
  intro t ht hn
  rw [z6]
  exact h _ t ht fun t' ht' hlt => ih t' ht' (by omega)
theorem Yj {T R : Type} {step : (T → Option R) → T → Option R} (μ : T → Nat) (inv : T → Prop) (G : T → Option R)
  (h : ∀ again t, inv t → (∀ t', inv t' → μ t' < μ t → again t' = G t') → step again t = G t) (t : T) (ht : inv t) (hn : μ t < 18446744073709551616) : z6 step zd t = G t :=
 ykK μ inv G h zd t ht (by rw [kN]; exact hn)
theorem w64 {n : Int} (h0 : -9223372036854775808 ≤ n) (h1 : n ≤ 9223372036854775807) : Go.IntKind.wrap .i64 n = n := by
 rw [IntKind.wrap_i64]
 omega
def inR (x a b : Int) : Bool := decide (a ≤ x) && decide (x ≤ b)
theorem Zd {x a b : Int} : inR x a b = true ↔ a ≤ x ∧ x ≤ b := by simp [inR]
theorem y5d (n : Nat) (h : n < 9223372036854775808) : IntKind.i64.wrap (n : Int) = n := by
 rw [IntKind.wrap_i64]
 omega
theorem yad (x : Int) : ((BitVec.ofInt 64 x).toNat : Int) = x % 18446744073709551616 := by
 rw [BitVec.toNat_ofInt]
 omega
theorem ybx (x : Int) (m : Nat) (j : Nat) (hj : j < 63) (hm : m = 2 ^ j - 1) : bits .and .i64 x m = x % (2 ^ j : Nat) := by
 have hd : (2 ^ j : Nat) ∣ 18446744073709551616 := by
  have : (18446744073709551616 : Nat) = 2 ^ j * 2 ^ (64 - j) := by rw [← Nat.pow_add, show j + (64 - j) = 64 by omega]
  rw [this]
  exact Nat.dvd_mul_right _ _
 have hlt : m < 18446744073709551616 := by
  have : 2 ^ j ≤ 2 ^ 64 := Nat.pow_le_pow_right (by omega) (by omega)
  have h1 : 0 < 2 ^ j := Nat.two_pow_pos j
  omega
 have hj63 : 2 ^ j < 9223372036854775808 := by
  have : 2 ^ j ≤ 2 ^ 62 := Nat.pow_le_pow_right (by omega) (by omega)
  omega
 show IntKind.i64.wrap ((BitVec.ofInt 64 x &&& BitVec.ofInt 64 (m : Int)).toNat : Int) = _
 rw [BitVec.toNat_and, BitVec.ofInt_natCast, BitVec.toNat_ofNat, Nat.mod_eq_of_lt hlt, hm, Nat.and_two_pow_sub_one_eq_mod]
 have h2 := Nat.mod_lt (BitVec.ofInt 64 x).toNat (Nat.two_pow_pos j)
 rw [y5d _ (by omega), Int.natCast_emod, yad]
 exact Int.emod_emod_of_dvd _ (Int.ofNat_dvd.2 hd)
theorem ys9 (x : Int) : bits .and .i64 x 255 = x % 256 := ybx x 255 8 (by omega) (by decide)
theorem yC1 (x : Int) : bits .and .i64 x 1 = x % 2 := ybx x 1 1 (by omega) (by decide)
theorem ykL (a b : Nat) (ha : a < 9223372036854775808) (hb : b < 9223372036854775808) : bits .xor .i64 (a : Int) (b : Int) = ((a ^^^ b : Nat) : Int) := by
 show IntKind.i64.wrap ((BitVec.ofInt 64 (a : Int) ^^^ BitVec.ofInt 64 (b : Int)).toNat : Int) = _
 rw [BitVec.toNat_xor, BitVec.ofInt_natCast, BitVec.ofInt_natCast, BitVec.toNat_ofNat, BitVec.toNat_ofNat, Nat.mod_eq_of_lt (by omega), Nat.mod_eq_of_lt (by omega)]
 exact y5d _ (Nat.xor_lt_two_pow (n := 63) ha hb)
theorem y3D (x y : Int) (hx0 : 0 ≤ x) (hx1 : x < 4294967296) (hy0 : 0 ≤ y) (hy1 : y < 4294967296) : 0 ≤ bits .xor .i64 x y ∧ bits .xor .i64 x y < 4294967296 := by
 obtain ⟨a, rfl⟩ := Int.eq_ofNat_of_zero_le hx0
 obtain ⟨b, rfl⟩ := Int.eq_ofNat_of_zero_le hy0
 rw [ykL a b (by omega) (by omega)]
 have := Nat.xor_lt_two_pow (n := 32) (x := a) (y := b) (by omega) (by omega)
 omega
def Y2 (l : List Int) : Prop := ∀ x ∈ l, 0 ≤ x ∧ x < 256
def by_ (l : List Int) (i : Int) : Int := l.getD i.toNat 0
theorem yby {l : List Int} (h : Y2 l) (i : Int) : 0 ≤ by_ l i ∧ by_ l i < 256 := by
 unfold by_
 rw [List.getD_eq_getElem?_getD]
 cases hl : l[i.toNat]? with
 | none => simp
 | some x => exact h x (List.mem_of_getElem? hl)
def y5e (x : Int) : Int := if x % 2 = 1 then bits .xor .i64 (x / 2) 2197175160 else x / 2
def Wc : Nat → Int → Int
 | 0, x => x
 | n + 1, x => Wc n (y5e x)
def y0p (x b : Int) : Int := Wc 8 (bits .xor .i64 x b)
def crc (l : List Int) : Int := bits .xor .i64 (l.foldl y0p 4294967295) 4294967295
theorem Qt (x : Int) (h0 : 0 ≤ x) (h1 : x < 4294967296) : 0 ≤ y5e x ∧ y5e x < 4294967296 := by
 unfold y5e
 split
 ·exact y3D _ _ (by omega) (by omega) (by omega) (by omega)
 ·omega
theorem y0S : ∀ (n : Nat) (x : Int), 0 ≤ x → x < 4294967296 → 0 ≤ Wc n x ∧ Wc n x < 4294967296
 | 0, _, h0, h1 => ⟨h0, h1⟩
 | n + 1, x, h0, h1 => y0S n _ (Qt x h0 h1).1 (Qt x h0 h1).2
theorem y7n (x b : Int) (h0 : 0 ≤ x) (h1 : x < 4294967296) (hb0 : 0 ≤ b) (hb1 : b < 256) : 0 ≤ y0p x b ∧ y0p x b < 4294967296 := by
 have := y3D x b h0 h1 hb0 (by omega)
 exact y0S 8 _ this.1 this.2
end Go.Proofs.YtmapoakbdgpamaaGreat.Pl
namespace Go.Proofs.YtmapoakbdgpamaaGreat.Pl
open Go.Proofs.YtmapoakbdgpamaaGreat.R Go.Proofs.YtmapoakbdgpamaaGreat.XN
theorem yen {T R : Type} {step : (T → Option R) → T → Option R} (μ : T → Nat) (inv : T → Prop) (Q : T → Option R → Prop)
  (h : ∀ again t, inv t → (∀ t', inv t' → μ t' < μ t → Q t' (again t')) → Q t (step again t)) (t : T) (ht : inv t) (hn : μ t < 18446744073709551616) : Q t (z6 step zd t) := by
 have key : ∀ (n : Nat) (t : T), inv t → μ t < n → Q t (z6 step n t) := by
  intro n
  induction n with
  | zero => intro t _ hn; omega
  | succ n ih =>
   intro t ht hn
   rw [z6]
   exact h _ t ht fun t' ht' hlt => ih t' ht' (by omega)
 exact key zd t ht (by rw [kN]; exact hn)
theorem y7o {A : Type} (da : A) (l : List A) (i : Int) (h0 : 0 ≤ i) (h : i < l.length) : l.getD i.toNat da = l[i.toNat]'(by omega) := by
 rw [List.getD_eq_getElem?_getD, List.getElem?_eq_getElem (by omega)]
 rfl
theorem z4 {A : Type} (da : A) (l : List A) (i : Int) (h0 : 0 ≤ i) (h : i < l.length) : l.getD i.toNat da ∈ l := by
 rw [y7o da l i h0 h]
 exact List.getElem_mem _
theorem Ze {A : Type} (da : A) (l : List A) (i : Int) (h0 : 0 ≤ i) (h : i < l.length) : l.drop i.toNat = l.getD i.toNat da :: l.drop (i + 1).toNat := by
 rw [y7o da l i h0 h, show (i + 1).toNat = i.toNat + 1 by omega, ← List.drop_eq_getElem_cons]
theorem qf {A R : Type} {step : (List A × List A × Int → Option R) → List A × List A × Int → Option R} (k : Unit → Option R) (l : List A) (hl : l.length ≤ 1099511627776)
  (h : ∀ again i, 0 ≤ i → i < (l.length : Int) → step again (l, l, i) = again (l, l, i + 1))
  (hd : ∀ again i, ¬ i < (l.length : Int) → step again (l, l, i) = k ()) : z6 step zd (l, l, 0) = k () := by
 rw [Yj (fun t : List A × List A × Int => t.1.length - t.2.2.toNat) (fun t => t.1 = l ∧ t.2.1 = l ∧ 0 ≤ t.2.2 ∧ t.2.2 ≤ l.length) (fun _ => k ()) ?_ (l, l, 0) ⟨rfl, rfl, by simp, by simp⟩ (by simp; omega)]
 rintro again ⟨a, b, i⟩ ⟨h1, h2, h0, h3⟩ hag
 simp only at h1 h2 h0 h3 ⊢
 subst h1 h2
 by_cases hi : i < (b.length : Int)
 ·rw [h again i h0 hi]
  exact hag (b, b, i + 1) ⟨rfl, rfl, by simp only; omega, by simp only; omega⟩ (by simp only; omega)
 ·exact hd again i hi
def ze {A : Type} (w : A → Int) (l : List A) : Int := l.foldr (fun a s => w a + s) 0
theorem zz {A : Type} (w : A → Int) (a : A) (l : List A) : ze w (a :: l) = w a + ze w l := rfl
theorem QJ {A : Type} {w : A → Int} (hw : ∀ a, 0 ≤ w a) : ∀ {l : List A} {a : A}, a ∈ l → w a ≤ ze w l ∧ 0 ≤ ze w l
 | b :: l, a, h => by
  have hs : 0 ≤ ze w l := by
   clear h
   induction l with
   | nil => exact Int.le_refl _
   | cons c l ih => rw [zz]; have := hw c; omega
  rw [zz]
  have := hw b
  rcases List.mem_cons.1 h with rfl | h
  ·omega
  ·have := (QJ hw h).1
   omega
theorem z0 {A : Type} {w : A → Int} (hw : ∀ a, 0 ≤ w a) (l : List A) : 0 ≤ ze w l := by
 induction l with
 | nil => exact Int.le_refl _
 | cons c l ih => rw [zz]; have := hw c; omega
end Go.Proofs.YtmapoakbdgpamaaGreat.Pl
namespace Go.Proofs.YtmapoakbdgpamaaGreat.Pl
open Go.Proofs.YtmapoakbdgpamaaGreat.R Go.Proofs.YtmapoakbdgpamaaGreat.XN
def z3 {A : Type} (mk : A → Int → A) (cnt : A → Int) : List A → Int → List A
 | [], _ => []
 | a :: l, k => mk a k :: z3 mk cnt l (k + cnt a)
theorem y1s {A : Type} (mk : A → Int → A) (cnt : A → Int) : ∀ (l : List A) (k : Int), (z3 mk cnt l k).length = l.length
 | [], _ => rfl
 | a :: l, k => by simp [z3, y1s mk cnt l]
theorem Wd {A R : Type} (da : A) (mk : A → Int → A) (cnt : A → Int) (hc : ∀ a, 0 ≤ cnt a) (P : A → Prop) {step : (Int × Int × List A → Option R) → Int × Int × List A → Option R} (k0 : Int × List A → Option R) (M : Int)
  (h : ∀ again k i l, 0 ≤ i → i < ((List.length l : Nat) : Int) → 0 ≤ k → k + cnt (l.getD i.toNat da) ≤ M → (List.length l : Int) ≤ 1099511627776 → P (l.getD i.toNat da) → step again (k, i, l) = again (k + cnt (l.getD i.toNat da), i + 1, l.set i.toNat (mk (l.getD i.toNat da) k)))
  (hd : ∀ again k i l, ¬ i < ((List.length l : Nat) : Int) → step again (k, i, l) = k0 (k, l))
  (l : List A) (k : Int) (hk : 0 ≤ k) (hl : l.length ≤ 1099511627776) (hM : k + ze cnt l ≤ M) (hP : ∀ a ∈ l, P a) : z6 step zd (k, 0, l) = k0 (k + ze cnt l, z3 mk cnt l k) := by
 rw [Yj (fun t : Int × Int × List A => l.length - t.2.1.toNat) (fun t => 0 ≤ t.2.1 ∧ t.2.1 ≤ l.length ∧ t.2.2.length = l.length ∧ 0 ≤ t.1 ∧ t.1 + ze cnt (t.2.2.drop t.2.1.toNat) ≤ M ∧ ∀ a ∈ t.2.2.drop t.2.1.toNat, P a) (fun t => k0 (t.1 + ze cnt (t.2.2.drop t.2.1.toNat), t.2.2.take t.2.1.toNat ++ z3 mk cnt (t.2.2.drop t.2.1.toNat) t.1)) ?_ (k, 0, l) ⟨by simp, by simp, rfl, hk, by simpa using hM, by simpa using hP⟩ (by simp; omega)]
 ·simp
 ·rintro again ⟨k', i, o⟩ ⟨h1, h2, h3, h4, h5, h6⟩ hag
  simp only at h1 h2 h3 h4 h5 h6 ⊢
  by_cases hi : i < ((List.length o : Nat) : Int)
  ·have hn : i.toNat < o.length := by omega
   rw [Ze da o i h1 hi] at h5 h6 ⊢
   rw [zz] at h5 ⊢
   have hs := z0 hc (o.drop (i + 1).toNat)
   have e1 : (i + 1).toNat = i.toNat + 1 := by omega
   have hd1 : (o.set i.toNat (mk (o.getD i.toNat da) k')).drop (i + 1).toNat = o.drop (i + 1).toNat := by
    rw [e1, List.drop_set_of_lt (by omega)]
   rw [h again k' i o h1 hi h4 (by omega) (by omega) (h6 _ (by simp)), hag (k' + cnt (o.getD i.toNat da), i + 1, o.set i.toNat (mk (o.getD i.toNat da) k')) ⟨by simp only; omega, by simp only; omega, by simpa using h3, by have := hc (o.getD i.toNat da); simp only; omega, by
    simp only [hd1]
    omega, by
    simp only [hd1]
    exact fun a ha => h6 a (by simp [ha])⟩ (by simp only; omega)]
   simp only [hd1]
   rw [e1, List.take_succ_eq_append_getElem (by simpa using hn), List.take_set_of_le (Nat.le_refl _)]
   simp [z3, Int.add_assoc]
  ·rw [hd again k' i o hi, List.drop_of_length_le (by omega), List.take_of_length_le (by omega)]
   simp [ze, z3]
theorem vD {A R : Type} (da : A) (mk : A → Int → A) (cnt : A → Int) (hc : ∀ a, 0 ≤ cnt a) {step : (List A × Int × Int → Option R) → List A × Int × Int → Option R} (k1 : Int → Option R) (M : Int)
  (h : ∀ again l k i a, 0 ≤ i → i < ((List.length l : Nat) : Int) → 0 ≤ k → k + cnt a ≤ M → (List.length l : Int) ≤ 1099511627776 → l.getD i.toNat da = mk a k → step again (l, k, i) = again (l, k + cnt a, i + 1))
  (hd : ∀ again l k i, ¬ i < ((List.length l : Nat) : Int) → step again (l, k, i) = k1 k)
  (l : List A) (k : Int) (hk : 0 ≤ k) (hl : l.length ≤ 1099511627776) (hM : k + ze cnt l ≤ M) : z6 step zd (z3 mk cnt l k, k, 0) = k1 (k + ze cnt l) := by
 have hlen := y1s mk cnt l k
 rw [Yj (fun t : List A × Int × Int => l.length - t.2.2.toNat) (fun t => t.1 = z3 mk cnt l k ∧ 0 ≤ t.2.2 ∧ t.2.2 ≤ l.length ∧ 0 ≤ t.2.1 ∧ ∃ r, t.1.drop t.2.2.toNat = z3 mk cnt r t.2.1 ∧ t.2.1 + ze cnt r = k + ze cnt l) (fun t => k1 (k + ze cnt l)) ?_ (z3 mk cnt l k, k, 0) ⟨rfl, by simp, by simp, hk, l, by simp, rfl⟩ (by simp; omega)]
 rintro again ⟨o, k', i⟩ ⟨h1, h2, h3, h4, r, h5, h6⟩ hag
 simp only at h1 h2 h3 h4 h5 h6 ⊢
 subst h1
 by_cases hi : i < ((List.length (z3 mk cnt l k) : Nat) : Int)
 ·rw [Ze da _ i h2 hi] at h5
  cases r with
  | nil => simp [z3] at h5
  | cons a r =>
   rw [z3] at h5
   injection h5 with e1 e2
   rw [zz] at h6
   have hs := z0 hc r
   rw [h again _ k' i a h2 hi h4 (by omega) (by omega) e1]
   exact hag _ ⟨rfl, by simp only; omega, by simp only; omega, by have := hc a; simp only; omega, r, e2, by simp only; omega⟩ (by simp only; omega)
 ·have hz : ze cnt r = 0 := by
   rw [List.drop_of_length_le (by omega)] at h5
   cases r with
   | nil => rfl
   | cons a r => simp [z3] at h5
  rw [hd again _ k' i hi, show k' = k + ze cnt l by omega]
end Go.Proofs.YtmapoakbdgpamaaGreat.Pl
namespace Go.Proofs.YtmapoakbdgpamaaGreat.Pl
open Go.Proofs.YtmapoakbdgpamaaGreat.R Go.Proofs.YtmapoakbdgpamaaGreat.XN
def mkB (k : Int) (n : Nat) : List Int := (List.range n).map fun (j : Nat) => Go.IntKind.wrap .u8 (k + (j : Int))
theorem ykM (k : Int) (n : Nat) : (mkB k n).length = n := by simp [mkB]
theorem ygJ (k : Int) (n : Nat) : mkB k (n + 1) = Go.IntKind.wrap .u8 k :: mkB (k + 1) n := by
 unfold mkB
 rw [List.range_succ_eq_map, List.map_cons, List.map_map]
 congr 1
 ·simp
 ·refine List.map_congr_left fun j _ => ?_
  simp only [Function.comp]
  congr 1
  omega
theorem ykN (k : Int) (n j : Nat) (h : j < n) : (mkB k n).getD j 0 = Go.IntKind.wrap .u8 (k + j) := by
 unfold mkB
 rw [List.getD_eq_getElem?_getD, List.getElem?_map, List.getElem?_range h]
 rfl
theorem y1W (l : List Int) (k : Int) (h0 : 0 ≤ k) (hk : k ≤ 1099511627776) (hl : l.length ≤ 1099511627776) : zB (l, k) = some (k + l.length, mkB k l.length) := by
 unfold zB V2
 rw [Yj (fun t : Int × Int × List Int => l.length - t.2.1.toNat) (fun t => t.1 = k + t.2.1 ∧ 0 ≤ t.2.1 ∧ t.2.1 ≤ l.length ∧ t.2.2.length = l.length) (fun t => some (k + l.length, t.2.2.take t.2.1.toNat ++ mkB t.1 (l.length - t.2.1.toNat))) ?_ (k, 0, l) ⟨by simp, by simp, by simp, rfl⟩ (by simp; omega)]
 ·simp
 ·rintro again ⟨k', i, o⟩ ⟨h1, h2, h3, h4⟩ hag
  simp only at h1 h2 h3 h4 ⊢
  subst h1
  unfold W5
  simp only [Bool.cond_eq_ite, decide_eq_true_eq]
  by_cases hi : i < (List.length o : Int)
  ·have hn : i.toNat < o.length := by omega
   rw [if_pos hi, if_pos h2, if_pos hi, w64 (n := i + 1) (by omega) (by omega), w64 (n := k + i + 1) (by omega) (by omega), hag (k + i + 1, i + 1, o.set i.toNat (Go.IntKind.wrap .u8 (k + i))) ⟨by simp only; omega, by simp only; omega, by simp only; omega, by simpa using h4⟩ (by simp only; omega)]
   simp only
   have e1 : (i + 1).toNat = i.toNat + 1 := by omega
   rw [e1, List.take_succ_eq_append_getElem (by simpa using hn), List.take_set_of_le (Nat.le_refl _), show l.length - i.toNat = (l.length - (i.toNat + 1)) + 1 by omega, ygJ]
   simp
  ·rw [if_neg hi]
   have e1 : i.toNat = o.length := by omega
   have e2 : i = (l.length : Int) := by omega
   rw [List.take_of_length_le (by omega), show l.length - i.toNat = 0 by omega, e2]
   simp [mkB]
theorem y1X (k : Int) (n : Nat) (h0 : 0 ≤ k) (hk : k ≤ 1099511627776) (hl : n ≤ 1099511627776) : zC (mkB k n, k) = some (k + n) := by
 unfold zC V6
 rw [Yj (fun t : List Int × Int × Int => n - t.2.2.toNat) (fun t => t.1 = mkB k n ∧ t.2.1 = k + t.2.2 ∧ 0 ≤ t.2.2 ∧ t.2.2 ≤ n) (fun t => some (k + n)) ?_ (mkB k n, k, 0) ⟨rfl, by simp, by simp, by simp⟩ (by simp; omega)]
 rintro again ⟨o, k', i⟩ ⟨h1, h2, h3, h4⟩ hag
 simp only at h1 h2 h3 h4 ⊢
 subst h1 h2
 unfold Wb
 simp only [Bool.cond_eq_ite, decide_eq_true_eq]
 have hlen : ((List.length (mkB k n) : Nat) : Int) = n := by rw [ykM]
 by_cases hi : i < (n : Int)
 ·have hget : y9O (mkB k n) i = Go.IntKind.wrap .u8 (k + i) := by
   show (mkB k n).getD i.toNat 0 = _
   rw [ykN k n i.toNat (by omega), show ((i.toNat : Nat) : Int) = i by omega]
  rw [hlen, if_pos hi, if_pos h3, if_pos hi, hget, if_neg (by simp), w64 (n := i + 1) (by omega) (by omega), w64 (n := k + i + 1) (by omega) (by omega), hag (mkB k n, k + i + 1, i + 1) ⟨rfl, by simp only; omega, by simp only; omega, by simp only; omega⟩ (by simp only; omega)]
 ·rw [hlen, if_neg hi]
  congr 1
  omega
def JG : Int := 549755813888
theorem y5f {A : Type} (da : A) (l : List A) (i : Int) (v : A) (h0 : 0 ≤ i) (h1 : i < (List.length l : Int)) : (l.set i.toNat v).getD i.toNat da = v := by
 rw [List.getD_eq_getElem?_getD, List.getElem?_set_self (by omega)]
 rfl
theorem y7p (x : Int) (h0 : 0 ≤ x) (h1 : x ≤ 1099511627776) : ∃ r, zX x = some r := by
 unfold zX VJ
 cases hx : decide (x ≤ 0) with
 | true => exact ⟨_, rfl⟩
 | false =>
  rw [cond_false]
  refine yen (step := J0 _) (fun t : Int × ByteArray => t.1.toNat) (fun t => 0 ≤ t.1 ∧ t.1 + (ByteArray.size t.2 : Int) ≤ 1099511627776) (fun _ o => ∃ r, o = some r) ?_ (x, { data := #[] }) ⟨h0, by
   show x + ((ByteArray.size { data := #[] } : Nat) : Int) ≤ _
   rw [show ByteArray.size { data := #[] } = 0 from rfl]
   omega⟩ (by simp only; omega)
  rintro again ⟨y, t⟩ ⟨a0, a1⟩ hag
  simp only at a0 a1 hag
  unfold J0
  simp only []
  by_cases hy : y > 0
  ·have ht : Int.tdiv y 10 = y / 10 := Int.tdiv_eq_ediv_of_nonneg a0
   have hsz : ByteArray.size (y1B ([(Go.IntKind.wrap .u8 (Go.IntKind.wrap .i64 ((48 : Int) + (Int.tmod y (10 : Int)))))] : List z7)) = 1 := rfl
   rw [decide_eq_true hy, cond_true, if_pos (by rw [hsz]; omega), ht, w64 (n := y / 10) (by omega) (by omega)]
   refine hag (y / 10, _) ⟨by simp only; omega, ?_⟩ (by simp only; omega)
   simp only
   rw [show ByteArray.size (y1B ([(Go.IntKind.wrap .u8 (Go.IntKind.wrap .i64 ((48 : Int) + (Int.tmod y (10 : Int)))))] : List z7) ++ t) = 1 + t.size from by rw [ByteArray.size_append]; rfl]
   omega
  ·rw [decide_eq_false hy, cond_false, if_pos (by
    rw [show ByteArray.size { data := #[109] } = 1 from rfl]
    omega)]
   exact ⟨_, rfl⟩
noncomputable def mt (k : Int) : ByteArray := (zX k).getD ⟨#[]⟩
theorem y3E (x : Int) (h0 : 0 ≤ x) (h1 : x ≤ 1099511627776) : zX x = some (mt x) := by
 obtain ⟨r, hr⟩ := y7p x h0 h1
 unfold mt
 rw [hr]
 rfl
theorem V7 (k : Int) (h0 : 0 ≤ k) (h1 : k ≤ 1099511627776) : Go.IntKind.wrap .i64 (k + 1) = k + 1 := w64 (by omega) (by omega)
end Go.Proofs.YtmapoakbdgpamaaGreat.Pl
namespace Go.Proofs.YtmapoakbdgpamaaGreat.Pl
open Go.Proofs.YtmapoakbdgpamaaGreat.R Go.Proofs.YtmapoakbdgpamaaGreat.XN
theorem Zf (x a b : Int) : yt (x, a, b) = some (inR x a b) := by
 unfold yt inR
 by_cases h : x ≥ a <;> simp [h]
theorem zJ (x a b : Int) : yd (x, a, b) = some (inR x a b) := by
 unfold yd inR
 by_cases h : x ≥ a <;> simp [h]
theorem bi (x y : Int) : ((x == y) = true) = (x = y) := by simp
end Go.Proofs.YtmapoakbdgpamaaGreat.Pl
namespace Go.Proofs.YtmapoakbdgpamaaGreat.Pl
open Go.Proofs.YtmapoakbdgpamaaGreat.R Go.Proofs.YtmapoakbdgpamaaGreat.XN
theorem yae (l : List yx) (hl : l.length ≤ 1048576) : wT (l, l) = some true := by
 unfold wT Qp
 simp only [bne_self_eq_false, cond_false]
 refine qf (fun _ => some true) l (by omega) ?_ ?_
 ·intro again i h0 h1
  unfold wS
  have hw : Go.IntKind.wrap .i64 (i + 1) = i + 1 := w64 (by omega) (by omega)
  simp only [Bool.cond_eq_ite, decide_eq_true_eq, h0, h1, if_true, hw, if_true, Option.bind_some, bne_self_eq_false, beq_self_eq_true, Bool.not_true, Bool.false_eq_true, if_false]
 ·intro again i hi
  unfold wS
  simp only [Bool.cond_eq_ite, decide_eq_true_eq, if_neg hi]
theorem yaf (l : List ya) (hl : l.length ≤ 1048576) : Zu (l, l) = some true := by
 unfold Zu Qq
 simp only [bne_self_eq_false, cond_false]
 refine qf (fun _ => some true) l (by omega) ?_ ?_
 ·intro again i h0 h1
  unfold wU
  have hw : Go.IntKind.wrap .i64 (i + 1) = i + 1 := w64 (by omega) (by omega)
  simp only [Bool.cond_eq_ite, decide_eq_true_eq, h0, h1, if_true, hw, vW, Option.bind_some, bne_self_eq_false, beq_self_eq_true, Bool.not_true, Bool.false_eq_true, if_false]
 ·intro again i hi
  unfold wU
  simp only [Bool.cond_eq_ite, decide_eq_true_eq, if_neg hi]
theorem yag (l : List yq) (hl : l.length ≤ 1048576) : wW (l, l) = some true := by
 unfold wW Qr
 simp only [bne_self_eq_false, cond_false]
 refine qf (fun _ => some true) l (by omega) ?_ ?_
 ·intro again i h0 h1
  unfold wV
  have hw : Go.IntKind.wrap .i64 (i + 1) = i + 1 := w64 (by omega) (by omega)
  simp only [Bool.cond_eq_ite, decide_eq_true_eq, h0, h1, if_true, hw, vX, Option.bind_some, bne_self_eq_false, beq_self_eq_true, Bool.not_true, Bool.false_eq_true, if_false]
 ·intro again i hi
  unfold wV
  simp only [Bool.cond_eq_ite, decide_eq_true_eq, if_neg hi]
theorem y8E (l : List yb) (hl : l.length ≤ 1048576) : Jv (l, l) = some true := by
 unfold Jv qB
 simp only [bne_self_eq_false, cond_false]
 refine qf (fun _ => some true) l (by omega) ?_ ?_
 ·intro again i h0 h1
  unfold JD
  have hw : Go.IntKind.wrap .i64 (i + 1) = i + 1 := w64 (by omega) (by omega)
  simp only [Bool.cond_eq_ite, decide_eq_true_eq, h0, h1, if_true, hw, Kw, Option.bind_some, bne_self_eq_false, beq_self_eq_true, Bool.not_true, Bool.false_eq_true, if_false]
 ·intro again i hi
  unfold JD
  simp only [Bool.cond_eq_ite, decide_eq_true_eq, if_neg hi]
theorem yah (l : List yD) (hl : l.length ≤ 1048576) : wY (l, l) = some true := by
 unfold wY Qs
 simp only [bne_self_eq_false, cond_false]
 refine qf (fun _ => some true) l (by omega) ?_ ?_
 ·intro again i h0 h1
  unfold wX
  have hw : Go.IntKind.wrap .i64 (i + 1) = i + 1 := w64 (by omega) (by omega)
  simp only [Bool.cond_eq_ite, decide_eq_true_eq, h0, h1, if_true, hw, vY, Option.bind_some, bne_self_eq_false, beq_self_eq_true, Bool.not_true, Bool.false_eq_true, if_false]
 ·intro again i hi
  unfold wX
  simp only [Bool.cond_eq_ite, decide_eq_true_eq, if_neg hi]
theorem y8F (l : List y9) (hl : l.length ≤ 1048576) (hm : ∀ a ∈ l, Zu (a, a) = some true) : Ju (l, l) = some true := by
 unfold Ju qz
 simp only [bne_self_eq_false, cond_false]
 refine qf (fun _ => some true) l (by omega) ?_ ?_
 ·intro again i h0 h1
  unfold JB
  have hw : Go.IntKind.wrap .i64 (i + 1) = i + 1 := w64 (by omega) (by omega)
  have e : Zu (yh l i, yh l i) = some true := hm _ (z4 z5 l i h0 h1)
  simp only [Bool.cond_eq_ite, decide_eq_true_eq, h0, h1, if_true, hw, e, Option.bind_some, bne_self_eq_false, beq_self_eq_true, Bool.not_true, Bool.false_eq_true, if_false]
 ·intro again i hi
  unfold JB
  simp only [Bool.cond_eq_ite, decide_eq_true_eq, if_neg hi]
theorem y8G (l : List y8) (hl : l.length ≤ 1048576) (hm : ∀ a ∈ l, jY (a, a) = some true) : ZV (l, l) = some true := by
 unfold ZV qA
 simp only [bne_self_eq_false, cond_false]
 refine qf (fun _ => some true) l (by omega) ?_ ?_
 ·intro again i h0 h1
  unfold JC
  have hw : Go.IntKind.wrap .i64 (i + 1) = i + 1 := w64 (by omega) (by omega)
  have e : jY (yn l i, yn l i) = some true := hm _ (z4 zo l i h0 h1)
  simp only [Bool.cond_eq_ite, decide_eq_true_eq, h0, h1, if_true, hw, e, Option.bind_some, bne_self_eq_false, beq_self_eq_true, Bool.not_true, Bool.false_eq_true, if_false]
 ·intro again i hi
  unfold JC
  simp only [Bool.cond_eq_ite, decide_eq_true_eq, if_neg hi]
def VP (l : List y9) : Int := (List.length l : Int) + ze (fun a : y9 => (List.length a : Int)) l
theorem kI (l : List y9) : 0 ≤ VP l := by
 have := z0 (w := fun a : y9 => (List.length a : Int)) (fun a => Int.natCast_nonneg _) l
 unfold VP
 omega
end Go.Proofs.YtmapoakbdgpamaaGreat.Pl
namespace Go.Proofs.YtmapoakbdgpamaaGreat.Pl
open Go.Proofs.YtmapoakbdgpamaaGreat.R Go.Proofs.YtmapoakbdgpamaaGreat.XN
theorem Yk {T A S R : Type} {step : (T → Option R) → T → Option R} (mk : Int → S → T) (k : S → Option R) (da : A) (g : S → A → S) (l : List A) (hl : l.length ≤ 1099511627776) (I : Nat → S → Prop)
  (h : ∀ again i s, 0 ≤ i → i < (l.length : Int) → I i.toNat s → step again (mk i s) = again (mk (i + 1) (g s (l.getD i.toNat da))) ∧ I (i.toNat + 1) (g s (l.getD i.toNat da)))
  (hd : ∀ again i s, ¬ i < (l.length : Int) → step again (mk i s) = k s) (s : S) (hs : I 0 s) : z6 step zd (mk 0 s) = k (l.foldl g s) := by
 have key : ∀ (n : Nat) (i : Int) (s : S), 0 ≤ i → i ≤ l.length → I i.toNat s → l.length - i.toNat < n → z6 step n (mk i s) = k ((l.drop i.toNat).foldl g s) := by
  intro n
  induction n with
  | zero => intro i s _ _ _ hn; omega
  | succ n ih =>
   intro i s h0 h1 hI hn
   rw [z6]
   by_cases hi : i < (l.length : Int)
   ·obtain ⟨e, hI'⟩ := h (z6 step n) i s h0 hi hI
    have e1 : (i + 1).toNat = i.toNat + 1 := by omega
    rw [e, ih (i + 1) _ (by omega) (by omega) (by rw [e1]; exact hI') (by omega), Ze da l i h0 hi]
    rfl
   ·rw [hd _ i s hi, List.drop_of_length_le (by omega)]
    rfl
 have := key zd 0 s (by omega) (by omega) hs (by rw [kN]; simp; omega)
 simpa using this
def y0T (c k : ya) : Bool := if c.1 < k.1 then true else if c.1 = k.1 then decide (c.2.1 < k.2.1) else false
def y7q (c k : ya) : Bool := decide (c.1 = k.1) && decide (c.2.1 = k.2.1)
theorem Qu (a1 a2 a3 a4 a5 b1 b2 b3 b4 b5 : Int) : ZS (a1, a2, a3, a4, a5, b1, b2, b3, b4, b5) = some (y0T (a1, a2, a3, a4, a5) (b1, b2, b3, b4, b5)) := by
 unfold ZS y0T
 by_cases h : a1 = b1
 ·subst h
  simp
 ·have hb : (a1 == b1) = false := by simpa using h
  have hb' : (a1 != b1) = true := by simpa using h
  by_cases h2 : a1 < b1 <;> simp [h, h2, hb, hb']
theorem Qv (a1 a2 a3 a4 a5 b1 b2 b3 b4 b5 : Int) : ZU (a1, a2, a3, a4, a5, b1, b2, b3, b4, b5) = some (y0T (a1, a2, a3, a4, a5) (b1, b2, b3, b4, b5)) := by
 unfold ZU y0T
 by_cases h : a1 = b1
 ·subst h
  simp
 ·have hb : (a1 == b1) = false := by simpa using h
  have hb' : (a1 != b1) = true := by simpa using h
  by_cases h2 : a1 < b1 <;> simp [h, h2, hb, hb']
theorem y27 (a1 a2 a3 a4 a5 b1 b2 b3 b4 b5 : Int) : YF (a1, a2, a3, a4, a5, b1, b2, b3, b4, b5) = some (y7q (a1, a2, a3, a4, a5) (b1, b2, b3, b4, b5)) := by
 unfold YF y7q
 have e1 : (a1 == b1) = decide (a1 = b1) := rfl
 have e2 : (a2 == b2) = decide (a2 = b2) := rfl
 simp only [e1, e2]
 cases decide (a1 = b1) <;> cases decide (a2 = b2) <;> rfl
theorem y28 (a1 a2 a3 a4 a5 b1 b2 b3 b4 b5 : Int) : YQ (a1, a2, a3, a4, a5, b1, b2, b3, b4, b5) = some (y7q (a1, a2, a3, a4, a5) (b1, b2, b3, b4, b5)) := by
 unfold YQ y7q
 have e1 : (a1 == b1) = decide (a1 = b1) := rfl
 have e2 : (a2 == b2) = decide (a2 = b2) := rfl
 simp only [e1, e2]
 cases decide (a1 = b1) <;> cases decide (a2 = b2) <;> rfl
theorem ysD {n k : Nat} (h : n ≤ 1073741825) (hk : (1073741825 + k) * 40 < 140737488355328) : (n + k) * 40 < 140737488355328 := by omega
def We (k : ya) (s : Bool × List ya) (c : ya) : Bool × List ya :=
 if s.1 = false ∧ y0T c k = false then (true, if y7q c k then s.2 ++ [k] else s.2 ++ [k] ++ [c]) else (s.1, if y7q c k then s.2 else s.2 ++ [c])
def y05 (l : List ya) (k : ya) : List ya :=
 let r := l.foldl (We k) (false, [])
 if r.1 then r.2 else r.2 ++ [k]
def pN (p : Bool) : Nat := if p then 1 else 0
theorem y3F (k : ya) (s : Bool × List ya) (c : ya) : (We k s c).2.length + pN s.1 ≤ s.2.length + 1 + pN (We k s c).1 ∧ pN (We k s c).1 ≤ 1 := by
 unfold We pN
 obtain ⟨p, o⟩ := s
 cases p <;> cases y0T c k <;> cases y7q c k <;> simp
theorem QK (k : ya) : ∀ (l : List ya) (s : Bool × List ya), (l.foldl (We k) s).2.length + pN s.1 ≤ s.2.length + l.length + pN (l.foldl (We k) s).1
 | [], s => by simp
 | c :: l, s => by
  have h1 := (y3F k s c).1
  have h2 := QK k l (We k s c)
  simp only [List.foldl_cons, List.length_cons] at h2 ⊢
  omega
theorem y1t (l : List ya) (k : ya) : (y05 l k).length ≤ l.length + 1 := by
 have h := QK k l (false, [])
 unfold y05
 simp only [pN, List.length_nil, Bool.false_eq_true, if_false] at h ⊢
 cases hr : (l.foldl (We k) (false, [])).1 with
 | true =>
  rw [hr] at h
  simp at h ⊢
  omega
 | false =>
  rw [hr] at h
  simp at h ⊢
  omega
theorem y29 {R : Type} (k0 : Bool × Int × Int × Int × Int × Int × List ya → Option R) (again : w9 → Option R) (l : List ya) (i : Int) (p : Bool) (a b c d e : Int) (o : List ya) (hl : l.length ≤ 1073741824) (h0 : 0 ≤ i) (h1 : i < (l.length : Int)) (ho : o.length ≤ 1073741825) :
  Ye k0 again (l, p, i, a, b, c, d, e, o) = again (l, (We (a, b, c, d, e) (p, o) (l.getD i.toNat zG)).1, i + 1, a, b, c, d, e, (We (a, b, c, d, e) (p, o) (l.getD i.toNat zG)).2) := by
 have hw : Go.IntKind.wrap .i64 (i + 1) = i + 1 := w64 (by omega) (by omega)
 have c1 : (o.length + (0 + 1)) * 40 < 140737488355328 := ysD ho (by decide)
 have c2 : (o.length + (0 + 1) + (0 + 1)) * 40 < 140737488355328 := by rw [Nat.add_assoc]; exact ysD ho (by decide)
 obtain ⟨⟨x1, x2, x3, x4, x5⟩, hx⟩ : ∃ x, y0 l i = x := ⟨_, rfl⟩
 have hx' : l.getD i.toNat zG = (x1, x2, x3, x4, x5) := hx
 rw [hx']
 unfold Ye
 simp only [Bool.cond_eq_ite, decide_eq_true_eq, h0, h1, if_true, hw, hx, Qu, y27, Option.bind_some, List.length_append, List.length_cons, List.length_nil]
 unfold We
 generalize y0T (x1, x2, x3, x4, x5) (a, b, c, d, e) = q1
 generalize y7q (x1, x2, x3, x4, x5) (a, b, c, d, e) = q2
 simp only [c1, c2, if_true]
 cases p <;> cases q1 <;> cases q2 <;> rfl
theorem y2a {R : Type} (k0 : Bool × Int × Int × Int × Int × Int × List ya → Option R) (l : List ya) (a b c d e : Int) (hl : l.length ≤ 1073741824) :
  KV k0 (l, false, 0, a, b, c, d, e, []) = k0 ((l.foldl (We (a, b, c, d, e)) (false, [])).1, a, b, c, d, e, (l.foldl (We (a, b, c, d, e)) (false, [])).2) := by
 unfold KV
 refine Yk (step := Ye k0) (fun (i : Int) (s : Bool × List ya) => (l, s.1, i, a, b, c, d, e, s.2)) (fun s => k0 (s.1, a, b, c, d, e, s.2)) zG (We (a, b, c, d, e)) l (by omega) (fun i s => s.2.length ≤ i + pN s.1) ?_ ?_ (false, []) (by simp)
 ·rintro again i ⟨p, o⟩ h0 h1 hI
  have hp : pN p ≤ 1 := by cases p <;> decide
  have hI' : o.length ≤ i.toNat + pN p := hI
  clear hI
  refine ⟨y29 k0 again l i p a b c d e o hl h0 h1 (by omega), ?_⟩
  have ho := (y3F (a, b, c, d, e) (p, o) (l.getD i.toNat zG)).1
  show (We (a, b, c, d, e) (p, o) (l.getD i.toNat zG)).2.length ≤ i.toNat + 1 + pN (We (a, b, c, d, e) (p, o) (l.getD i.toNat zG)).1
  generalize (We (a, b, c, d, e) (p, o) (l.getD i.toNat zG)) = r at ho ⊢
  simp only at ho
  omega
 ·rintro again i ⟨p, o⟩ hi
  show Ye k0 again (l, p, i, a, b, c, d, e, o) = _
  unfold Ye
  simp only [Bool.cond_eq_ite, decide_eq_true_eq, if_neg hi]
theorem y4g (l : List ya) (a b c d e : Int) (hl : l.length ≤ 1073741824) : wc (l, a, b, c, d, e) = some (y05 l (a, b, c, d, e)) := by
 have hlen := QK (a, b, c, d, e) l (false, [])
 unfold wc y05
 rw [y2a _ l a b c d e hl]
 generalize l.foldl (We (a, b, c, d, e)) (false, []) = r at hlen ⊢
 obtain ⟨q, o⟩ := r
 cases q with
 | true => rfl
 | false =>
  simp only [pN, List.length_nil, Bool.false_eq_true, if_false] at hlen
  simp only [Bool.not_false, cond_true, List.length_cons, List.length_nil, Bool.false_eq_true, if_false]
  rw [if_pos (by omega)]
theorem y2b {R : Type} (k0 : Bool × Int × Int × Int × Int × Int × List ya → Option R) (again : wz → Option R) (l : List ya) (i : Int) (p : Bool) (a b c d e : Int) (o : List ya) (hl : l.length ≤ 1073741824) (h0 : 0 ≤ i) (h1 : i < (l.length : Int)) (ho : o.length ≤ 1073741825) :
  Yg k0 again (p, l, (l.length : Int), i, a, b, c, d, e, o) = again ((We (a, b, c, d, e) (p, o) (l.getD i.toNat zG)).1, l, (l.length : Int), i + 1, a, b, c, d, e, (We (a, b, c, d, e) (p, o) (l.getD i.toNat zG)).2) := by
 have hw : Go.IntKind.wrap .i64 (i + 1) = i + 1 := w64 (by omega) (by omega)
 have c1 : (o.length + (0 + 1)) * 40 < 140737488355328 := ysD ho (by decide)
 have c2 : (o.length + (0 + 1) + (0 + 1)) * 40 < 140737488355328 := by rw [Nat.add_assoc]; exact ysD ho (by decide)
 obtain ⟨⟨x1, x2, x3, x4, x5⟩, hx⟩ : ∃ x, y0 l i = x := ⟨_, rfl⟩
 have hx' : l.getD i.toNat zG = (x1, x2, x3, x4, x5) := hx
 rw [hx']
 unfold Yg
 simp only [Bool.cond_eq_ite, decide_eq_true_eq, h0, h1, if_true, hw, hx, Qv, y28, Option.bind_some, List.length_append, List.length_cons, List.length_nil]
 unfold We
 generalize y0T (x1, x2, x3, x4, x5) (a, b, c, d, e) = q1
 generalize y7q (x1, x2, x3, x4, x5) (a, b, c, d, e) = q2
 simp only [c1, c2, if_true]
 cases p <;> cases q1 <;> cases q2 <;> rfl
theorem y2c {R : Type} (k0 : Bool × Int × Int × Int × Int × Int × List ya → Option R) (l : List ya) (a b c d e : Int) (hl : l.length ≤ 1073741824) :
  vg k0 (false, l, (l.length : Int), 0, a, b, c, d, e, []) = k0 ((l.foldl (We (a, b, c, d, e)) (false, [])).1, a, b, c, d, e, (l.foldl (We (a, b, c, d, e)) (false, [])).2) := by
 unfold vg
 refine Yk (step := Yg k0) (fun (i : Int) (s : Bool × List ya) => (s.1, l, (l.length : Int), i, a, b, c, d, e, s.2)) (fun s => k0 (s.1, a, b, c, d, e, s.2)) zG (We (a, b, c, d, e)) l (by omega) (fun i s => s.2.length ≤ i + pN s.1) ?_ ?_ (false, []) (by simp)
 ·rintro again i ⟨p, o⟩ h0 h1 hI
  have hp : pN p ≤ 1 := by cases p <;> decide
  have hI' : o.length ≤ i.toNat + pN p := hI
  clear hI
  refine ⟨y2b k0 again l i p a b c d e o hl h0 h1 (by omega), ?_⟩
  have ho := (y3F (a, b, c, d, e) (p, o) (l.getD i.toNat zG)).1
  show (We (a, b, c, d, e) (p, o) (l.getD i.toNat zG)).2.length ≤ i.toNat + 1 + pN (We (a, b, c, d, e) (p, o) (l.getD i.toNat zG)).1
  generalize (We (a, b, c, d, e) (p, o) (l.getD i.toNat zG)) = r at ho ⊢
  simp only at ho
  omega
 ·rintro again i ⟨p, o⟩ hi
  show Yg k0 again (p, l, (l.length : Int), i, a, b, c, d, e, o) = _
  unfold Yg
  simp only [Bool.cond_eq_ite, decide_eq_true_eq, if_neg hi]
theorem y4h (l : List ya) (a b c d e : Int) (hl : l.length ≤ 1073741824) : wA (l, a, b, c, d, e) = some (y05 l (a, b, c, d, e)) := by
 have hlen := QK (a, b, c, d, e) l (false, [])
 unfold wA y05
 rw [y2c _ l a b c d e hl]
 generalize l.foldl (We (a, b, c, d, e)) (false, []) = r at hlen ⊢
 obtain ⟨q, o⟩ := r
 cases q with
 | true => rfl
 | false =>
  simp only [pN, List.length_nil, Bool.false_eq_true, if_false] at hlen
  simp only [Bool.not_false, cond_true, List.length_cons, List.length_nil, Bool.false_eq_true, if_false]
  rw [if_pos (by omega)]
end Go.Proofs.YtmapoakbdgpamaaGreat.Pl
namespace Go.Proofs.YtmapoakbdgpamaaGreat.Pl
open Go.Proofs.YtmapoakbdgpamaaGreat.R Go.Proofs.YtmapoakbdgpamaaGreat.XN
def vE (a b : List ya) : List ya := b.foldl y05 a
theorem QL : ∀ (b a : List ya), (vE a b).length ≤ a.length + b.length
 | [], a => by simp [vE]
 | c :: b, a => by
  have h := QL b (y05 a c)
  have h2 := y1t a c
  unfold vE at h ⊢
  simp only [List.foldl_cons, List.length_cons] at h ⊢
  omega
def qg (s : List ya) (c : ya) : List ya := if c.2.2.1 = 0 then s else s ++ [c]
def ygK (l : List ya) : List ya := l.foldl qg []
theorem y0q (s : List ya) (c : ya) : (qg s c).length ≤ s.length + 1 := by
 unfold qg
 split <;> simp
theorem y8H : ∀ (l s : List ya), (l.foldl qg s).length ≤ s.length + l.length
 | [], s => by simp
 | c :: l, s => by
  have h := y8H l (qg s c)
  have h2 := y0q s c
  simp only [List.foldl_cons, List.length_cons]
  omega
def y7L (a : y9) : Int := (List.length a : Int)
theorem qh (a : y9) : 0 ≤ y7L a := Int.natCast_nonneg _
def vF (n : List y9) : List ya := ygK (n.foldl vE [])
theorem y0U : ∀ (n : List y9) (s : List ya), ((n.foldl vE s).length : Int) ≤ s.length + ze y7L n
 | [], s => by simp [ze]
 | c :: n, s => by
  have h := y0U n (vE s c)
  have h2 := QL c s
  simp only [List.foldl_cons, zz, y7L]
  omega
theorem y0V (n : List y9) : ((vF n).length : Int) ≤ ze y7L n := by
 have h := y8H (n.foldl vE []) []
 have h2 := y0U n []
 unfold vF ygK
 simp only [List.length_nil] at h h2
 omega
theorem y0W (n : List y9) : ze y7L n ≤ VP n := by
 show ze (fun a : y9 => (List.length a : Int)) n ≤ (List.length n : Int) + ze (fun a : y9 => (List.length a : Int)) n
 omega
def Kb (s : List ya) (n : y8) : List ya := s ++ vF n
def qN (t : List y8) : List ya := t.foldl Kb []
theorem y1u (a b : List ya) (h : a.length + b.length ≤ 1073741824) : Yl (a, b) = some (vE a b) := by
 unfold Yl vP
 simp only [List.length_nil, Nat.zero_add, List.nil_append]
 rw [if_pos (by omega)]
 refine Yk (step := Yu _) (fun (i : Int) (s : List ya) => (b, i, s)) (fun s => some s) zG y05 b (by omega) (fun i s => s.length ≤ a.length + i) ?_ ?_ a (by simp)
 ·intro again i s h0 h1 hI
  have hw : Go.IntKind.wrap .i64 (i + 1) = i + 1 := w64 (by omega) (by omega)
  have hs := y1t s (b.getD i.toNat zG)
  have e := y4g s (y0 b i).1 (y0 b i).2.1 (y0 b i).2.2.1 (y0 b i).2.2.2.1 (y0 b i).2.2.2.2 (by omega)
  refine ⟨?_, by omega⟩
  unfold Yu
  simp only [Bool.cond_eq_ite, decide_eq_true_eq, h0, h1, if_true, hw, e, Option.bind_some]
  rfl
 ·intro again i s hi
  unfold Yu
  simp only [Bool.cond_eq_ite, decide_eq_true_eq, if_neg hi]
theorem y8I (l : List ya) (h : l.length ≤ 1073741824) : Wt l = some (ygK l) := by
 unfold Wt y0Q
 refine Yk (step := w8 _) (fun (i : Int) (s : List ya) => (l, i, s)) (fun s => some s) zG qg l (by omega) (fun i s => s.length ≤ i) ?_ ?_ [] (by simp)
 ·intro again i s h0 h1 hI
  have hw : Go.IntKind.wrap .i64 (i + 1) = i + 1 := w64 (by omega) (by omega)
  have hs := y0q s (l.getD i.toNat zG)
  refine ⟨?_, by omega⟩
  have c1 : (s.length + 1) * 40 < 140737488355328 := by omega
  clear hs
  unfold w8 qg
  obtain ⟨⟨x1, x2, x3, x4, x5⟩, hx⟩ : ∃ x, y0 l i = x := ⟨_, rfl⟩
  have hx' : l.getD i.toNat zG = (x1, x2, x3, x4, x5) := hx
  rw [hx']
  simp only [Bool.cond_eq_ite, decide_eq_true_eq, h0, h1, if_true, hw, hx, List.length_cons, List.length_nil, Nat.zero_add, c1]
  by_cases h3 : x3 = 0
  ·rw [if_neg (by simpa using h3), if_pos h3]
  ·rw [if_pos (by simpa using h3), if_neg h3]
 ·intro again i s hi
  unfold w8
  simp only [Bool.cond_eq_ite, decide_eq_true_eq, if_neg hi]
theorem qF (n : List y9) (hn : n.length ≤ 1073741824) (h : ze y7L n ≤ 1048576) : zS n = some (vF n) := by
 have hlen := y0U n []
 simp only [List.length_nil] at hlen
 have hD := y8I (n.foldl vE []) (by omega)
 unfold zS Vy
 refine (Yk (step := YG _) (fun (i : Int) (s : List ya) => (i, n, s)) (fun s => Option.bind (Wt s) fun r3 => some r3) z5 vE n (by omega) (fun i s => (s.length : Int) + ze y7L (n.drop i) ≤ ze y7L n) ?_ ?_ [] (by simp)).trans ?_
 ·intro again i s h0 h1 hI
  have hw : Go.IntKind.wrap .i64 (i + 1) = i + 1 := w64 (by omega) (by omega)
  rw [Ze z5 n i h0 h1, zz, show (i + 1).toNat = i.toNat + 1 by omega] at hI
  have hnn := z0 qh (n.drop (i.toNat + 1))
  have hm := QL (n.getD i.toNat z5) s
  have hk : y7L (n.getD i.toNat z5) = (List.length (n.getD i.toNat z5) : Int) := rfl
  have e : Yl (s, yh n i) = some (vE s (yh n i)) := y1u s _ (by show s.length + List.length (n.getD i.toNat z5) ≤ _; omega)
  refine ⟨?_, by omega⟩
  unfold YG
  simp only [Bool.cond_eq_ite, decide_eq_true_eq, h0, h1, if_true, hw, e, Option.bind_some]
  rfl
 ·intro again i s hi
  unfold YG
  simp only [Bool.cond_eq_ite, decide_eq_true_eq, if_neg hi]
 ·rw [hD]
  rfl
theorem qG (q : List Int) (t : List y8) (ht : t.length ≤ 1073741824) (hm : ∀ n ∈ t, List.length n ≤ 1073741824) (h : ze VP t ≤ 1048576) : zT (q, t) = some (qN t) := by
 unfold zT Vz
 refine Yk (step := YH _) (fun (i : Int) (s : List ya) => (i, q, t, s)) (fun s => some s) zo Kb t (by omega) (fun i s => (s.length : Int) + ze VP (t.drop i) ≤ ze VP t) ?_ ?_ [] (by simp)
 ·intro again i s h0 h1 hI
  have hw : Go.IntKind.wrap .i64 (i + 1) = i + 1 := w64 (by omega) (by omega)
  rw [Ze zo t i h0 h1, zz, show (i + 1).toNat = i.toNat + 1 by omega] at hI
  have hnn := z0 kI (t.drop (i.toNat + 1))
  have hge := y0W (t.getD i.toNat zo)
  have hk := y0V (t.getD i.toNat zo)
  have e : zS (yn t i) = some (vF (yn t i)) := qF _ (hm _ (z4 zo t i h0 h1)) (by show ze y7L (t.getD i.toNat zo) ≤ _; omega)
  have hT : (Kb s (t.getD i.toNat zo)).length = s.length + (vF (t.getD i.toNat zo)).length := List.length_append
  have c1 : (s.length + (vF (yn t i)).length) * 40 < 140737488355328 := by
   show (s.length + (vF (t.getD i.toNat zo)).length) * 40 < 140737488355328
   generalize (vF (t.getD i.toNat zo)).length = m at hk ⊢
   clear hT e
   have : s.length + m ≤ 1048576 := by omega
   omega
  refine ⟨?_, by rw [hT]; omega⟩
  unfold YH
  simp only [Bool.cond_eq_ite, decide_eq_true_eq, h0, h1, if_true, hw, e, Option.bind_some, c1]
  rfl
 ·intro again i s hi
  unfold YH
  simp only [Bool.cond_eq_ite, decide_eq_true_eq, if_neg hi]
theorem y1v (a b : List ya) (h : a.length + b.length ≤ 1073741824) : Ym (a, b) = some (vE a b) := by
 unfold Ym zV vT
 simp only [List.length_nil, Nat.zero_add, List.nil_append]
 rw [if_pos (by omega), Option.bind_some]
 refine Yk (step := Yw _) (fun (i : Int) (s : List ya) => (b, (b.length : Int), i, s)) (fun s => some s) zG y05 b (by omega) (fun i s => s.length ≤ a.length + i) ?_ ?_ a (by simp)
 ·intro again i s h0 h1 hI
  have hw : Go.IntKind.wrap .i64 (i + 1) = i + 1 := w64 (by omega) (by omega)
  have hs := y1t s (b.getD i.toNat zG)
  have e := y4h s (y0 b i).1 (y0 b i).2.1 (y0 b i).2.2.1 (y0 b i).2.2.2.1 (y0 b i).2.2.2.2 (by omega)
  refine ⟨?_, by omega⟩
  unfold Yw
  simp only [Bool.cond_eq_ite, decide_eq_true_eq, h0, h1, if_true, hw, e, Option.bind_some]
  rfl
 ·intro again i s hi
  unfold Yw
  simp only [Bool.cond_eq_ite, decide_eq_true_eq, if_neg hi]
theorem y8J (l : List ya) (h : l.length ≤ 1073741824) : WJ l = some (ygK l) := by
 unfold WJ y0R
 refine Yk (step := wC _) (fun (i : Int) (s : List ya) => (l, (l.length : Int), i, s)) (fun s => some s) zG qg l (by omega) (fun i s => s.length ≤ i) ?_ ?_ [] (by simp)
 ·intro again i s h0 h1 hI
  have hw : Go.IntKind.wrap .i64 (i + 1) = i + 1 := w64 (by omega) (by omega)
  have hs := y0q s (l.getD i.toNat zG)
  refine ⟨?_, by omega⟩
  have c1 : (s.length + 1) * 40 < 140737488355328 := by omega
  clear hs
  unfold wC qg
  obtain ⟨⟨x1, x2, x3, x4, x5⟩, hx⟩ : ∃ x, y0 l i = x := ⟨_, rfl⟩
  have hx' : l.getD i.toNat zG = (x1, x2, x3, x4, x5) := hx
  rw [hx']
  simp only [Bool.cond_eq_ite, decide_eq_true_eq, h0, h1, if_true, hw, hx, List.length_cons, List.length_nil, Nat.zero_add, c1]
  by_cases h3 : x3 = 0
  ·rw [if_neg (by simpa using h3), if_pos h3]
  ·rw [if_pos (by simpa using h3), if_neg h3]
 ·intro again i s hi
  unfold wC
  simp only [Bool.cond_eq_ite, decide_eq_true_eq, if_neg hi]
theorem qH (n : List y9) (hn : n.length ≤ 1073741824) (h : ze y7L n ≤ 1048576) : zW n = some (vF n) := by
 have hlen := y0U n []
 simp only [List.length_nil] at hlen
 have hD := y8J (n.foldl vE []) (by omega)
 unfold zW VB
 refine (Yk (step := YR _) (fun (i : Int) (s : List ya) => (n, (n.length : Int), i, s)) (fun s => Option.bind (WJ s) fun r3 => some r3) z5 vE n (by omega) (fun i s => (s.length : Int) + ze y7L (n.drop i) ≤ ze y7L n) ?_ ?_ [] (by simp)).trans ?_
 ·intro again i s h0 h1 hI
  have hw : Go.IntKind.wrap .i64 (i + 1) = i + 1 := w64 (by omega) (by omega)
  rw [Ze z5 n i h0 h1, zz, show (i + 1).toNat = i.toNat + 1 by omega] at hI
  have hnn := z0 qh (n.drop (i.toNat + 1))
  have hm := QL (n.getD i.toNat z5) s
  have hk : y7L (n.getD i.toNat z5) = (List.length (n.getD i.toNat z5) : Int) := rfl
  have e : Ym (s, yh n i) = some (vE s (yh n i)) := y1v s _ (by show s.length + List.length (n.getD i.toNat z5) ≤ _; omega)
  refine ⟨?_, by omega⟩
  unfold YR
  simp only [Bool.cond_eq_ite, decide_eq_true_eq, h0, h1, if_true, hw, e, Option.bind_some]
  rfl
 ·intro again i s hi
  unfold YR
  simp only [Bool.cond_eq_ite, decide_eq_true_eq, if_neg hi]
 ·rw [hD]
  rfl
theorem y2d (q : List Int) (t : List y8) (ht : t.length ≤ 1073741824) (hm : ∀ n ∈ t, List.length n ≤ 1073741824) (h : ze VP t ≤ 1048576) : YT (q, t) = some (qN t) := by
 unfold YT VC
 refine Yk (step := YS _) (fun (i : Int) (s : List ya) => (t, (t.length : Int), i, s)) (fun s => some s) zo Kb t (by omega) (fun i s => (s.length : Int) + ze VP (t.drop i) ≤ ze VP t) ?_ ?_ [] (by simp)
 ·intro again i s h0 h1 hI
  have hw : Go.IntKind.wrap .i64 (i + 1) = i + 1 := w64 (by omega) (by omega)
  rw [Ze zo t i h0 h1, zz, show (i + 1).toNat = i.toNat + 1 by omega] at hI
  have hnn := z0 kI (t.drop (i.toNat + 1))
  have hge := y0W (t.getD i.toNat zo)
  have hk := y0V (t.getD i.toNat zo)
  have e : zW (yn t i) = some (vF (yn t i)) := qH _ (hm _ (z4 zo t i h0 h1)) (by show ze y7L (t.getD i.toNat zo) ≤ _; omega)
  have hT : (Kb s (t.getD i.toNat zo)).length = s.length + (vF (t.getD i.toNat zo)).length := List.length_append
  have c1 : (s.length + (vF (yn t i)).length) * 40 < 140737488355328 := by
   show (s.length + (vF (t.getD i.toNat zo)).length) * 40 < 140737488355328
   generalize (vF (t.getD i.toNat zo)).length = m at hk ⊢
   clear hT e
   have : s.length + m ≤ 1048576 := by omega
   omega
  refine ⟨?_, by rw [hT]; omega⟩
  unfold YS
  simp only [Bool.cond_eq_ite, decide_eq_true_eq, h0, h1, if_true, hw, e, Option.bind_some, c1]
  rfl
 ·intro again i s hi
  unfold YS
  simp only [Bool.cond_eq_ite, decide_eq_true_eq, if_neg hi]
end Go.Proofs.YtmapoakbdgpamaaGreat.Pl
namespace Go.Proofs.YtmapoakbdgpamaaGreat.Pl
open Go.Proofs.YtmapoakbdgpamaaGreat.R Go.Proofs.YtmapoakbdgpamaaGreat.XN
def ycu {S A R : Type} (g : Int → S → A → Except (Option R) S) (k : S → Option R) : List A → Int → S → Option R
 | [], _, s => k s
 | a :: l, i, s => match g i s a with
  | .error r => r
  | .ok s' => ycu g k l (i + 1) s'
theorem yeo {T A S R : Type} {step : (T → Option R) → T → Option R} (mk : Int → S → T) (g : Int → S → A → Except (Option R) S) (k : S → Option R) (da : A) (l : List A) (hl : l.length ≤ 1099511627776) (I : Nat → S → Prop)
  (h : ∀ again i s, 0 ≤ i → i < (l.length : Int) → I i.toNat s → (step again (mk i s) = match g i s (l.getD i.toNat da) with
   | .error r => r
   | .ok s' => again (mk (i + 1) s')) ∧ ∀ s', g i s (l.getD i.toNat da) = .ok s' → I (i.toNat + 1) s')
  (hd : ∀ again i s, ¬ i < (l.length : Int) → step again (mk i s) = k s) (s : S) (hs : I 0 s) : z6 step zd (mk 0 s) = ycu g k l 0 s := by
 have key : ∀ (n : Nat) (i : Int) (s : S), 0 ≤ i → i ≤ l.length → I i.toNat s → l.length - i.toNat < n → z6 step n (mk i s) = ycu g k (l.drop i.toNat) i s := by
  intro n
  induction n with
  | zero => intro i s _ _ _ hn; omega
  | succ n ih =>
   intro i s h0 h1 hI hn
   rw [z6]
   by_cases hi : i < (l.length : Int)
   ·obtain ⟨e, hI'⟩ := h (z6 step n) i s h0 hi hI
    have e1 : (i + 1).toNat = i.toNat + 1 := by omega
    rw [e, Ze da l i h0 hi, ycu]
    cases hg : g i s (l.getD i.toNat da) with
    | error r => rfl
    | ok s' => exact ih (i + 1) s' (by omega) (by omega) (by rw [e1]; exact hI' s' hg) (by omega)
   ·rw [hd _ i s hi, List.drop_of_length_le (by omega)]
    rfl
 have := key zd 0 s (by omega) (by omega) hs (by rw [kN]; simp; omega)
 simpa using this
def qO {A : Type} (p : A → Bool) : List A → Int → Int
 | [], _ => -1
 | a :: l, i => if p a then i else qO p l (i + 1)
theorem y8K {A R : Type} (p : A → Bool) (hit : Int → Option R) (miss : Option R) : ∀ (l : List A) (i : Int), 0 ≤ i → ycu (fun i (_ : Unit) a => if p a then .error (hit i) else .ok ()) (fun _ => miss) l i () = if qO p l i < 0 then miss else hit (qO p l i)
 | [], i, _ => by simp [ycu, qO]
 | a :: l, i, h => by
  rw [ycu, qO]
  by_cases hp : p a = true
  ·rw [if_pos hp, if_pos hp, if_neg (by omega)]
  ·rw [if_neg hp, if_neg hp]
   exact y8K p hit miss l (i + 1) (by omega)
theorem y3G {T A R : Type} {step : (T → Option R) → T → Option R} (mk : Int → T) (p : A → Bool) (hit : Int → Option R) (miss : Option R) (da : A) (l : List A) (hl : l.length ≤ 1099511627776)
  (h : ∀ again i, 0 ≤ i → i < (l.length : Int) → step again (mk i) = if p (l.getD i.toNat da) then hit i else again (mk (i + 1)))
  (hd : ∀ again i, ¬ i < (l.length : Int) → step again (mk i) = miss) : z6 step zd (mk 0) = if qO p l 0 < 0 then miss else hit (qO p l 0) := by
 rw [← y8K p hit miss l 0 (Int.le_refl _)]
 refine yeo (fun i (_ : Unit) => mk i) _ _ da l hl (fun _ _ => True) (fun again i s h0 h1 _ => ⟨?_, fun _ _ => trivial⟩) (fun again i s hi => hd again i hi) () trivial
 rw [h again i h0 h1]
 cases p (l.getD i.toNat da) <;> rfl
theorem y1w {A : Type} (p : A → Bool) (da : A) : ∀ (l : List A) (i : Int), 0 ≤ i → qO p l i = -1 ∨ (i ≤ qO p l i ∧ qO p l i < i + l.length ∧ p (l.getD (qO p l i - i).toNat da) = true)
 | [], i, _ => .inl rfl
 | a :: l, i, h => by
  rw [qO]
  by_cases hp : p a = true
  ·rw [if_pos hp]
   refine .inr ⟨Int.le_refl _, by simp only [List.length_cons]; omega, ?_⟩
   simpa using hp
  ·rw [if_neg hp]
   rcases y1w p da l (i + 1) (by omega) with e | ⟨e1, e2, e3⟩
   ·exact .inl e
   ·refine .inr ⟨by omega, by simp only [List.length_cons]; omega, ?_⟩
    rw [show (qO p l (i + 1) - i).toNat = (qO p l (i + 1) - (i + 1)).toNat + 1 by omega, List.getD_cons_succ]
    exact e3
def kJ (l : List yq) (id : Int) : Int := qO (fun a : yq => a.1 == id) l 0
theorem y5g (l : List yq) (id : Int) : kJ l id = -1 ∨ (0 ≤ kJ l id ∧ kJ l id < l.length ∧ (l.getD (kJ l id).toNat kC).1 = id) := by
 rcases y1w (fun a : yq => a.1 == id) kC l 0 (Int.le_refl _) with h | ⟨h1, h2, h3⟩
 ·exact .inl h
 ·refine .inr ⟨h1, by simpa [kJ] using h2, ?_⟩
  have := eq_of_beq h3
  simpa [kJ] using this
theorem qi (l : List yq) (id : Int) (hl : l.length ≤ 1073741824) : Zj (l, id) = some (kJ l id) := by
 unfold Zj y00
 refine (y3G (step := Jd _ _) (fun i => (l, id, i)) (fun a : yq => a.1 == id) (fun x => some x) (some (-1)) kC l (by omega) ?_ ?_).trans ?_
 ·intro again i h0 h1
  have hw : Go.IntKind.wrap .i64 (i + 1) = i + 1 := w64 (by omega) (by omega)
  unfold Jd
  simp only [Bool.cond_eq_ite, decide_eq_true_eq, h0, h1, if_true, hw]
  rfl
 ·intro again i hi
  unfold Jd
  simp only [Bool.cond_eq_ite, decide_eq_true_eq, if_neg hi]
 ·rcases y5g l id with h | ⟨h1, h2, h3⟩ <;> unfold kJ at *
  ·rw [h]
   rfl
  ·rw [if_neg (by omega)]
theorem qj (l : List yq) (id : Int) (hl : l.length ≤ 1073741824) : Zk (l, id) = some (kJ l id) := by
 have key : yO (l, id) = some (kJ l id, id) := by
  unfold yO Y5
  refine (y3G (step := yK _ _) (fun i => (l, (l.length : Int), i, id)) (fun a : yq => a.1 == id) (fun x => some (x, id)) (some (-1, id)) kC l (by omega) ?_ ?_).trans ?_
  ·intro again i h0 h1
   have hw : Go.IntKind.wrap .i64 (i + 1) = i + 1 := w64 (by omega) (by omega)
   unfold yK ku
   simp only [Bool.cond_eq_ite, decide_eq_true_eq, h0, h1, if_true, hw, Option.bind_some]
   rfl
  ·intro again i hi
   unfold yK
   simp only [Bool.cond_eq_ite, decide_eq_true_eq, if_neg hi]
  ·rcases y5g l id with h | ⟨h1, h2, h3⟩ <;> unfold kJ at *
   ·rw [h]
    rfl
   ·rw [if_neg (by omega)]
 unfold Zk
 rw [key]
 rfl
end Go.Proofs.YtmapoakbdgpamaaGreat.Pl
namespace Go.Proofs.YtmapoakbdgpamaaGreat.Pl
open Go.Proofs.YtmapoakbdgpamaaGreat.R Go.Proofs.YtmapoakbdgpamaaGreat.XN
theorem y8L : ∀ (t : List y8) (s : List ya), ((t.foldl Kb s).length : Int) ≤ s.length + ze VP t
 | [], s => by simp [ze]
 | n :: t, s => by
  have h := y8L t (Kb s n)
  have h1 := y0V n
  have h2 := y0W n
  have h3 : (Kb s n).length = s.length + (vF n).length := List.length_append
  simp only [List.foldl_cons, zz]
  omega
theorem yep (t : List y8) : ((qN t).length : Int) ≤ ze VP t := by
 have := y8L t []
 simpa [qN] using this
structure TOk (t : List y8) : Prop where
 len : t.length ≤ 1048576
 nodes : ∀ n ∈ t, List.length n ≤ 1073741824
 sum : ze VP t ≤ 1048576
theorem TOk.keys {t : List y8} (h : TOk t) : (qN t).length ≤ 1048576 := by
 have h1 := yep t
 have h2 := h.sum
 omega
end Go.Proofs.YtmapoakbdgpamaaGreat.Pl
namespace Go.Proofs.YtmapoakbdgpamaaGreat.Pl
open Go.Proofs.YtmapoakbdgpamaaGreat.R Go.Proofs.YtmapoakbdgpamaaGreat.XN
def y8M (is : List yx) (ns : List y8) (ags : List yq) (cs : List yb) (vs : List yD) : Prop :=
 is.length ≤ 1048576 ∧ ns.length ≤ 1048576 ∧ ze VP ns ≤ 1048576 ∧ ags.length ≤ 1048576 ∧ cs.length ≤ 1048576 ∧ vs.length ≤ 1048576
theorem KE {ns : List y8} (h : ze VP ns ≤ 1048576) {n : List y9} (hn : n ∈ ns) : n.length ≤ 1048576 ∧ ∀ s ∈ n, List.length s ≤ 1048576 := by
 have h1 := (QJ kI hn).1
 have h2 := z0 qh n
 have h3 : VP n = (List.length n : Int) + ze y7L n := rfl
 refine ⟨by omega, fun s hs => ?_⟩
 have h4 := (QJ qh hs).1
 have h5 : y7L s = (List.length s : Int) := rfl
 omega
theorem yai (is : List yx) (ns : List y8) (ags : List yq) (cs : List yb) (vs : List yD) (z : Int) (h : y8M is ns ags cs vs) : wZ (is, ns, ags, cs, vs, z, is, ns, ags, cs, vs, z) = some true := by
 obtain ⟨h1, h2, h3, h4, h5, h6⟩ := h
 have hN : ZV (ns, ns) = some true := y8G ns h2 fun a ha => by
  have hs := KE h3 ha
  unfold jY
  rw [y8F a hs.1 fun b hb => yaf b (hs.2 b hb)]
  rfl
 unfold wZ Kv
 simp only [yae is h1, hN, yag ags h4, y8E cs h5, yah vs h6, Option.bind_some, Bool.not_true, cond_false, bne_self_eq_false]
end Go.Proofs.YtmapoakbdgpamaaGreat.Pl
namespace Go.Proofs.YtmapoakbdgpamaaGreat.Pl
open Go.Proofs.YtmapoakbdgpamaaGreat.R Go.Proofs.YtmapoakbdgpamaaGreat.XN
def zR {A : Type} (p : Int → A → Bool) : List A → Int → Bool
 | [], _ => false
 | a :: l, i => p i a || zR p l (i + 1)
theorem yeq {A : Type} (p q : Int → A → Bool) : ∀ (l : List A) (i : Int), zR (fun i a => p i a || q i a) l i = (zR p l i || zR q l i)
 | [], _ => rfl
 | a :: l, i => by
  rw [zR, zR, zR, yeq p q l (i + 1)]
  cases p i a <;> cases q i a <;> cases zR p l (i + 1) <;> rfl
theorem y5h {A : Type} {p q : Int → A → Bool} : ∀ (l : List A) (i : Int), (∀ j a, i ≤ j → p j a = q j a) → zR p l i = zR q l i
 | [], _, _ => rfl
 | a :: l, i, h => by rw [zR, zR, h i a (Int.le_refl _), y5h l (i + 1) (fun j a hj => h j a (by omega))]
theorem y2S {A S R : Type} (p : Int → A → Bool) (f : S → A → S) (r : Option R) (k : S → Option R) : ∀ (l : List A) (i : Int) (s : S), ycu (fun i s a => if p i a = true then .error r else .ok (f s a)) k l i s = if zR p l i = true then r else k (l.foldl f s)
 | [], _, _ => by simp [ycu, zR]
 | a :: l, i, s => by
  rw [ycu, zR]
  by_cases h : p i a = true
  ·simp [h]
  ·have hf : p i a = false := by simpa using h
   simp only [hf, Bool.false_eq_true, if_false, Bool.false_or, List.foldl_cons]
   exact y2S p f r k l (i + 1) (f s a)
theorem y3H {T A S R : Type} {step : (T → Option R) → T → Option R} (mk : Int → S → T) (g : Int → S → A → Except (Option R) S) (k : S → Option R) (da : A) (l : List A) (hl : l.length ≤ 1099511627776) (I : Nat → S → Prop)
  (h : ∀ again i s, 0 ≤ i → i < (l.length : Int) → I i.toNat s → (step again (mk i s) = match g i s (l.getD i.toNat da) with
   | .error r => r
   | .ok s' => again (mk (i + 1) s')) ∧ ∀ s', g i s (l.getD i.toNat da) = .ok s' → I (i.toNat + 1) s')
  (hd : ∀ again i s, ¬ i < (l.length : Int) → step again (mk i s) = k s) (i0 : Int) (h00 : 0 ≤ i0) (s : S) (hs : I i0.toNat s) : z6 step zd (mk i0 s) = ycu g k (l.drop i0.toNat) i0 s := by
 have key : ∀ (n : Nat) (i : Int) (s : S), 0 ≤ i → I i.toNat s → l.length - i.toNat < n → z6 step n (mk i s) = ycu g k (l.drop i.toNat) i s := by
  intro n
  induction n with
  | zero => intro i s _ _ hn; omega
  | succ n ih =>
   intro i s h0 hI hn
   rw [z6]
   by_cases hi : i < (l.length : Int)
   ·obtain ⟨e, hI'⟩ := h (z6 step n) i s h0 hi hI
    have e1 : (i + 1).toNat = i.toNat + 1 := by omega
    rw [e, Ze da l i h0 hi, ycu]
    cases hg : g i s (l.getD i.toNat da) with
    | error r => rfl
    | ok s' => exact ih (i + 1) s' (by omega) (by rw [e1]; exact hI' s' hg) (by omega)
   ·rw [hd _ i s hi, List.drop_of_length_le (by omega)]
    rfl
 exact key zd i0 s h00 hs (by rw [kN]; omega)
theorem y2T {T A S R : Type} {step : (T → Option R) → T → Option R} (mk : Int → S → T) (p : Int → A → Bool) (f : S → A → S) (r : Option R) (k : S → Option R) (da : A) (l : List A) (hl : l.length ≤ 1099511627776)
  (h : ∀ again i s, 0 ≤ i → i < (l.length : Int) → step again (mk i s) = if p i (l.getD i.toNat da) = true then r else again (mk (i + 1) (f s (l.getD i.toNat da))))
  (hd : ∀ again i s, ¬ i < (l.length : Int) → step again (mk i s) = k s) (s : S) : z6 step zd (mk 0 s) = if zR p l 0 = true then r else k (l.foldl f s) := by
 rw [← y2S p f r k l 0 s]
 have := y3H (step := step) mk (fun i s a => if p i a = true then .error r else .ok (f s a)) k da l hl (fun _ _ => True) (fun again i s h0 h1 _ => ⟨?_, fun _ _ => trivial⟩) hd 0 (Int.le_refl _) s trivial
 ·simpa using this
 ·rw [h again i s h0 h1]
  by_cases hp : p i (l.getD i.toNat da) = true
  ·rw [if_pos hp, if_pos hp]
  ·rw [if_neg hp, if_neg hp]
theorem zh {T A R : Type} {step : (T → Option R) → T → Option R} (mk : Int → T) (p : Int → A → Bool) (r k : Option R) (da : A) (l : List A) (hl : l.length ≤ 1099511627776)
  (h : ∀ again i, 0 ≤ i → i < (l.length : Int) → step again (mk i) = if p i (l.getD i.toNat da) = true then r else again (mk (i + 1)))
  (hd : ∀ again i, ¬ i < (l.length : Int) → step again (mk i) = k) : z6 step zd (mk 0) = if zR p l 0 = true then r else k :=
 y2T (fun i (_ : Unit) => mk i) p (fun _ _ => ()) r (fun _ => k) da l hl (fun again i _ h0 h1 => h again i h0 h1) (fun again i _ hi => hd again i hi) ()
end Go.Proofs.YtmapoakbdgpamaaGreat.Pl
namespace Go.Proofs.YtmapoakbdgpamaaGreat.Pl
open Go.Proofs.YtmapoakbdgpamaaGreat.R Go.Proofs.YtmapoakbdgpamaaGreat.XN
def J1 (k : ya) : Bool := inR k.1 0 15 && (inR k.2.1 1 60 && (inR k.2.2.1 0 2 && (if k.2.2.1 = 1 then inR k.2.2.2.1 0 23 && inR k.2.2.2.2 0 999 else (k.2.2.2.1 == 0) && (k.2.2.2.2 == 0))))
theorem y0X (a b c d e : Int) : JS (a, b, c, d, e) = some (J1 (a, b, c, d, e)) := by
 unfold JS J1
 simp only [Zf, Option.bind_some]
 by_cases hc : c = 1
 ·subst hc
  cases inR a 0 15 <;> cases inR b 1 60 <;> cases inR 1 0 2 <;> cases inR d 0 23 <;> rfl
 ·have hc' : (c == 1) = false := by simpa using hc
  rw [hc', if_neg hc]
  cases inR a 0 15 <;> cases inR b 1 60 <;> cases inR c 0 2 <;> cases (d == 0) <;> rfl
theorem y0Y (a b c d e : Int) : JT (a, b, c, d, e) = some (J1 (a, b, c, d, e)) := by
 unfold JT J1
 simp only [zJ, Option.bind_some]
 by_cases hc : c = 1
 ·subst hc
  cases inR a 0 15 <;> cases inR b 1 60 <;> cases inR 1 0 2 <;> cases inR d 0 23 <;> rfl
 ·have hc' : (c != 1) = true := by simpa using hc
  rw [hc', if_neg hc]
  cases inR a 0 15 <;> cases inR b 1 60 <;> cases inR c 0 2 <;> cases (d == 0) <;> rfl
def kn (l : List ya) (i : Int) (a : ya) : Bool := decide (0 < i) && !y0T (l.getD (i - 1).toNat zG) a
def y06 (l : List ya) : Bool := !zR (fun _ a => !J1 a) l 0 && (!zR (kn l) l 0 && decide ((l.length : Int) ≤ 60))
theorem y7r (l : List ya) (hl : l.length ≤ 1073741824) : Ja l = some (!zR (kn l) l 0) := by
 unfold Ja qs
 have key := y3H (step := Zy (fun x2 => some x2) (fun x3 => some true)) (fun i (_ : Unit) => (l, i)) (fun i (s : Unit) a => if (decide (0 < i) && !y0T (l.getD (i - 1).toNat zG) a) = true ∨ i = 0 then .error (some false) else .ok s) (fun _ => some true) zG l (by omega) (fun i _ => 1 ≤ i) ?_ ?_ 1 (by omega) () (by decide)
 ·rw [key]
  have h1 : zR (kn l) l 0 = zR (kn l) (l.drop 1) 1 := by
   cases l with
   | nil => rfl
   | cons a l => simp [zR, kn]
  rw [h1]
  have h2 := y2S (fun i a => decide ((decide (0 < i) && !y0T (l.getD (i - 1).toNat zG) a) = true ∨ i = 0)) (fun (s : Unit) _ => s) (some false) (fun _ => some true) (l.drop 1) 1 ()
  simp only [decide_eq_true_eq] at h2
  rw [show (1 : Int).toNat = 1 from rfl, h2]
  have h3 : zR (fun i a => decide ((decide (0 < i) && !y0T (l.getD (i - 1).toNat zG) a) = true ∨ i = 0)) (l.drop 1) 1 = zR (kn l) (l.drop 1) 1 := y5h _ _ fun j a hj => by
   unfold kn
   have : ¬ j = 0 := by omega
   simp [this]
  rw [h3]
  cases zR (kn l) (l.drop 1) 1 <;> rfl
 ·intro again i s h0 h1 hI
  have hi : 1 ≤ i := by
   have : (1 : Nat) ≤ i.toNat := hI
   omega
  have hw : Go.IntKind.wrap .i64 (i + 1) = i + 1 := w64 (by omega) (by omega)
  have hm : Go.IntKind.wrap .i64 (i - 1) = i - 1 := w64 (by omega) (by omega)
  refine ⟨?_, fun _ _ => by omega⟩
  unfold Zy
  obtain ⟨⟨x1, x2, x3, x4, x5⟩, hx⟩ : ∃ x, y0 l i = x := ⟨_, rfl⟩
  have hx' : l.getD i.toNat zG = (x1, x2, x3, x4, x5) := hx
  obtain ⟨⟨y1, y2, y3, y4, y5⟩, hy⟩ : ∃ y, y0 l (i - 1) = y := ⟨_, rfl⟩
  have hy' : l.getD (i - 1).toNat zG = (y1, y2, y3, y4, y5) := hy
  rw [hx', hy']
  have h3 : 0 ≤ i - 1 := by omega
  have h4 : i - 1 < (l.length : Int) := by omega
  have h5 : 0 < i := by omega
  have h6 : ¬ i = 0 := by omega
  simp only [Bool.cond_eq_ite, decide_eq_true_eq, h0, h1, if_true, hw, hm, hx, hy, h3, h4, h5, h6, Qu, Option.bind_some, decide_true, Bool.true_and, or_false]
  cases y0T (y1, y2, y3, y4, y5) (x1, x2, x3, x4, x5) <;> rfl
 ·intro again i s hi
  unfold Zy
  simp only [Bool.cond_eq_ite, decide_eq_true_eq, if_neg hi]
theorem y7s (l : List ya) (hl : l.length ≤ 1073741824) : kD l = some (y06 l) := by
 unfold kD QZ y06
 refine (zh (step := Jb _ _) (fun i => (l, i)) (fun _ a => !J1 a) (some false) (some (!zR (kn l) l 0 && decide ((l.length : Int) ≤ 60))) zG l (by omega) ?_ ?_).trans ?_
 ·intro again i h0 h1
  have hw : Go.IntKind.wrap .i64 (i + 1) = i + 1 := w64 (by omega) (by omega)
  unfold Jb
  obtain ⟨⟨x1, x2, x3, x4, x5⟩, hx⟩ : ∃ x, y0 l i = x := ⟨_, rfl⟩
  have hx' : l.getD i.toNat zG = (x1, x2, x3, x4, x5) := hx
  rw [hx']
  simp only [Bool.cond_eq_ite, decide_eq_true_eq, h0, h1, if_true, hw, hx, y0X, Option.bind_some]
 ·intro again i hi
  unfold Jb
  simp only [Bool.cond_eq_ite, decide_eq_true_eq, if_neg hi, y7r l hl, Option.bind_some]
  cases zR (kn l) l 0 <;> rfl
 ·cases zR (fun _ a => !J1 a) l 0 <;> rfl
theorem y7t (l : List ya) (hl : l.length ≤ 1073741824) : kF l = some (y06 l) := by
 unfold kF y03 y06
 refine (zh (step := Jm _ _) (fun i => (l, l, (l.length : Int), i)) (fun i a => !J1 a || kn l i a) (some false) (some (decide ((l.length : Int) ≤ 60))) zG l (by omega) ?_ ?_).trans ?_
 ·intro again i h0 h1
  have hw : Go.IntKind.wrap .i64 (i + 1) = i + 1 := w64 (by omega) (by omega)
  have hm : Go.IntKind.wrap .i64 (i - 1) = i - 1 := w64 (by omega) (by omega)
  unfold Jm kn
  obtain ⟨⟨x1, x2, x3, x4, x5⟩, hx⟩ : ∃ x, y0 l i = x := ⟨_, rfl⟩
  have hx' : l.getD i.toNat zG = (x1, x2, x3, x4, x5) := hx
  obtain ⟨⟨y1, y2, y3, y4, y5⟩, hy⟩ : ∃ y, y0 l (i - 1) = y := ⟨_, rfl⟩
  have hy' : l.getD (i - 1).toNat zG = (y1, y2, y3, y4, y5) := hy
  rw [hx', hy']
  simp only [Bool.cond_eq_ite, decide_eq_true_eq, h0, h1, if_true, hw, hm, hx, hy, y0Y, Qv, Option.bind_some]
  cases J1 (x1, x2, x3, x4, x5)
  ·rfl
  ·by_cases h5 : 0 < i
   ·have h3 : 0 ≤ i - 1 := by omega
    have h4 : i - 1 < (l.length : Int) := by omega
    simp only [gt_iff_lt, h5, h3, h4, if_true, decide_true]
    cases y0T (y1, y2, y3, y4, y5) (x1, x2, x3, x4, x5) <;> rfl
   ·simp [h5]
 ·intro again i hi
  unfold Jm
  simp only [Bool.cond_eq_ite, decide_eq_true_eq, if_neg hi]
 ·rw [yeq]
  cases zR (fun _ a => !J1 a) l 0 <;> cases zR (kn l) l 0 <;> rfl
def y1Y (_ : Int) (a : y9) : Bool := !y06 a || ((List.length a : Int) == 0)
def y1Z (s : Int) (a : y9) : Int := Go.IntKind.wrap .i64 (s + (List.length a : Int))
def ko (n : List y9) : Bool := !zR y1Y n 0 && (decide ((n.length : Int) ≤ 3) && decide (n.foldl y1Z 0 ≤ 8))
theorem y7u (n : List y9) (hn : n.length ≤ 1073741824) : Jc n = some (n.foldl y1Z 0) := by
 unfold Jc qt
 refine Yk (step := Zz _) (fun (i s : Int) => (s, i, n)) (fun s => some s) z5 y1Z n (by omega) (fun _ _ => True) ?_ ?_ 0 trivial
 ·intro again i s h0 h1 _
  have hw : Go.IntKind.wrap .i64 (i + 1) = i + 1 := w64 (by omega) (by omega)
  refine ⟨?_, trivial⟩
  unfold Zz
  simp only [Bool.cond_eq_ite, decide_eq_true_eq, h0, h1, if_true, hw]
  rfl
 ·intro again i s hi
  unfold Zz
  simp only [Bool.cond_eq_ite, decide_eq_true_eq, if_neg hi]
theorem y4i (n : List y9) (hn : n.length ≤ 1073741824) (hm : ∀ s ∈ n, List.length s ≤ 1073741824) : we n = some (ko n) := by
 unfold we Q1 ko
 refine (zh (step := ji _ _) (fun i => (i, n)) y1Y (some false) (some (decide ((n.length : Int) ≤ 3) && decide (n.foldl y1Z 0 ≤ 8))) z5 n (by omega) ?_ ?_).trans ?_
 ·intro again i h0 h1
  have hw : Go.IntKind.wrap .i64 (i + 1) = i + 1 := w64 (by omega) (by omega)
  have e := y7s (yh n i) (hm _ (z4 z5 n i h0 h1))
  unfold ji y1Y
  have hx : n.getD i.toNat z5 = yh n i := rfl
  rw [hx]
  simp only [Bool.cond_eq_ite, decide_eq_true_eq, h0, h1, if_true, hw, e, Option.bind_some]
  cases y06 (yh n i)
  ·rfl
  ·rfl
 ·intro again i hi
  unfold ji
  simp only [Bool.cond_eq_ite, decide_eq_true_eq, if_neg hi, y7u n hn, Option.bind_some]
  by_cases h3 : (n.length : Int) ≤ 3 <;> simp [h3]
 ·cases zR y1Y n 0 <;> rfl
theorem y4j (n : List y9) (hn : n.length ≤ 1073741824) (hm : ∀ s ∈ n, List.length s ≤ 1073741824) : wy n = some (ko n) := by
 unfold wy Qd ko
 refine (y2T (step := jr _ _) (fun (i s : Int) => (s, n, (n.length : Int), i, n)) y1Y y1Z (some false) (fun s => some (decide ((n.length : Int) ≤ 3) && decide (s ≤ 8))) z5 n (by omega) ?_ ?_ 0).trans ?_
 ·intro again i s h0 h1
  have hw : Go.IntKind.wrap .i64 (i + 1) = i + 1 := w64 (by omega) (by omega)
  have e := y7t (yh n i) (hm _ (z4 z5 n i h0 h1))
  unfold jr y1Y y1Z
  have hx : n.getD i.toNat z5 = yh n i := rfl
  rw [hx]
  simp only [Bool.cond_eq_ite, decide_eq_true_eq, h0, h1, if_true, hw, e, Option.bind_some]
  cases y06 (yh n i)
  ·rfl
  ·rfl
 ·intro again i s hi
  unfold jr
  simp only [Bool.cond_eq_ite, decide_eq_true_eq, if_neg hi]
  by_cases h3 : (n.length : Int) ≤ 3 <;> simp [h3]
 ·cases zR y1Y n 0 <;> rfl
end Go.Proofs.YtmapoakbdgpamaaGreat.Pl
namespace Go.Proofs.YtmapoakbdgpamaaGreat.Pl
open Go.Proofs.YtmapoakbdgpamaaGreat.R Go.Proofs.YtmapoakbdgpamaaGreat.XN
def ygL (a : ya) : Int := Go.IntKind.wrap .i64 (Go.IntKind.wrap .i64 ((64 : Int) * a.1) + a.2.1)
def ykO (q : List Int) (i : Int) (_ : Int) (a : ya) : Bool := decide (ygL a < q.getD i.toNat 0) || (decide (i + 1 < (q.length : Int)) && decide (ygL a ≥ q.getD (i + 1).toNat 0))
theorem TOk.node {t : List y8} (h : TOk t) {n : List y9} (hn : n ∈ t) : n.length ≤ 1048576 ∧ ∀ s ∈ n, List.length s ≤ 1048576 := KE h.sum hn
theorem TOk.sumK {t : List y8} (h : TOk t) {n : List y9} (hn : n ∈ t) : ze y7L n ≤ 1048576 := by
 have h1 := (QJ kI hn).1
 have h2 := y0W n
 have h3 := h.sum
 omega
theorem ycv {R : Type} (k0 : (Int × Bool × Int × List yx × List y8 × List y9) → Option R) (k1 : (Int × Int × List yx × List y8 × List y9) → Option R) (i k : Int) (q : List Int) (t : List y8) (n : List y9) (hk0 : 0 ≤ k) (hk : k < (n.length : Int)) (hi0 : 0 ≤ i) (hi : i < (q.length : Int)) (hq : q.length ≤ 1048576) (hs : List.length (yh n k) ≤ 1048576) :
  KY k0 k1 (i, k, 0, q, t, n) = if zR (ykO q i) (yh n k) 0 = true then k0 (i, false, k, q, t, n) else k1 (i, k, q, t, n) := by
 unfold KY
 refine zh (step := jj k0 k1) (fun j => (i, k, j, q, t, n)) (ykO q i) _ _ zG (yh n k) (by omega) ?_ ?_
 ·intro again j h0 h1
  have hw : Go.IntKind.wrap .i64 (j + 1) = j + 1 := w64 (by omega) (by omega)
  have hwi : Go.IntKind.wrap .i64 (i + 1) = i + 1 := w64 (by omega) (by omega)
  unfold jj ykO Kt Kr ygL
  obtain ⟨⟨x1, x2, x3, x4, x5⟩, hx⟩ : ∃ x, y0 (yh n k) j = x := ⟨_, rfl⟩
  have hx' : (yh n k).getD j.toNat zG = (x1, x2, x3, x4, x5) := hx
  have e1 : q.getD i.toNat 0 = zI q i := rfl
  have e2 : q.getD (i + 1).toNat 0 = zI q (i + 1) := rfl
  rw [hx', e1, e2]
  have hi1 : 0 ≤ i + 1 := by omega
  simp only [Bool.cond_eq_ite, decide_eq_true_eq, h0, h1, hk0, hk, hi0, hi, hi1, if_true, hw, hwi, hx, Option.bind_some]
  by_cases h2 : Go.IntKind.wrap .i64 (Go.IntKind.wrap .i64 ((64 : Int) * x1) + x2) < zI q i
  ·simp [h2]
  ·by_cases h3 : i + 1 < (q.length : Int)
   ·simp [h2, h3]
   ·simp [h2, h3]
 ·intro again j hj
  unfold jj
  simp only [Bool.cond_eq_ite, decide_eq_true_eq, hk0, hk, if_true, if_neg hj]
def yer (q : List Int) (i : Int) (_ : Int) (s : y9) : Bool := zR (ykO q i) s 0
def yes (n : y8) : Bool := ((vF n).length : Int) == 0
def yaj (q : List Int) (i : Int) (n : y8) : Bool := ko n && (!(decide (0 < i) && yes n) && !zR (yer q i) n 0)
theorem y4k (q : List Int) (t : List y8) (i : Int) (ht : TOk t) (hi0 : 0 ≤ i) (hi : i < (t.length : Int)) (hq : q.length = t.length) : wg (q, t, i) = some (yaj q i (yn t i)) := by
 have hmem : yn t i ∈ t := z4 zo t i hi0 hi
 obtain ⟨hn, hs⟩ := ht.node hmem
 have hlen := ht.len
 have hq1 : i < (q.length : Int) := by omega
 have hq2 : q.length ≤ 1048576 := by omega
 have e1 := y4i (yn t i) (by omega) (fun s hh => by have := hs s hh; omega)
 have e2 : zS (yn t i) = some (vF (yn t i)) := qF _ (by omega) (ht.sumK hmem)
 unfold wg yaj yes
 simp only [hi0, hi, if_true, e1, Option.bind_some]
 generalize yn t i = n at *
 cases ko n
 ·rfl
 ·have key : v5 (fun x10 => some x10) (fun x11 => some true) (i, 0, q, t, n) = some (!zR (yer q i) n 0) := by
   unfold v5
   refine (zh (step := jk _ _) (fun k => (i, k, q, t, n)) (yer q i) (some false) (some true) z5 n (by omega) ?_ ?_).trans ?_
   ·intro again k h0 h1
    have hw : Go.IntKind.wrap .i64 (k + 1) = k + 1 := w64 (by omega) (by omega)
    have hsk : List.length (yh n k) ≤ 1048576 := hs _ (z4 z5 n k h0 h1)
    unfold jk yer
    have hx : n.getD k.toNat z5 = yh n k := rfl
    rw [hx]
    simp only [Bool.cond_eq_ite, decide_eq_true_eq, h1, if_true, ycv _ _ i k q t n h0 h1 hi0 hq1 hq2 hsk, hw]
   ·intro again k hk
    unfold jk
    simp only [Bool.cond_eq_ite, decide_eq_true_eq, if_neg hk]
   ·cases zR (yer q i) n 0 <;> rfl
  simp only [key, e2, Option.bind_some, Bool.not_true, cond_false, gt_iff_lt]
  by_cases h0 : 0 < i
  ·simp only [h0, decide_true, cond_true, Bool.true_and]
   cases (((vF n).length : Int) == 0) <;> rfl
  ·simp only [h0, decide_false, cond_false, Bool.false_and]
   rfl
theorem ycw {R : Type} (k0 : (Int × Bool × List y9 × Int × Int × List yx × List y8) → Option R) (k1 : (Int × List y9 × Int × Int × List yx × List y8) → Option R) (i k m : Int) (q : List Int) (t : List y8) (n : List y9) (s : List ya) (hi0 : 0 ≤ i) (hi : i < (q.length : Int)) (hq : q.length ≤ 1048576) (hs : s.length ≤ 1048576) :
  WH k0 k1 (i, n, m, k, s, (s.length : Int), 0, q, t) = if zR (ykO q i) s 0 = true then k0 (i, false, n, m, k, q, t) else k1 (i, n, m, k, q, t) := by
 unfold WH
 refine zh (step := YO k0 k1) (fun j => (i, n, m, k, s, (s.length : Int), j, q, t)) (ykO q i) _ _ zG s (by omega) ?_ ?_
 ·intro again j h0 h1
  have hw : Go.IntKind.wrap .i64 (j + 1) = j + 1 := w64 (by omega) (by omega)
  have hwi : Go.IntKind.wrap .i64 (i + 1) = i + 1 := w64 (by omega) (by omega)
  unfold YO ykO Ku ygL
  obtain ⟨⟨x1, x2, x3, x4, x5⟩, hx⟩ : ∃ x, y0 s j = x := ⟨_, rfl⟩
  have hx' : s.getD j.toNat zG = (x1, x2, x3, x4, x5) := hx
  have e1 : q.getD i.toNat 0 = zI q i := rfl
  have e2 : q.getD (i + 1).toNat 0 = zI q (i + 1) := rfl
  rw [hx', e1, e2]
  have hi1 : 0 ≤ i + 1 := by omega
  simp only [Bool.cond_eq_ite, decide_eq_true_eq, h0, h1, hi0, hi, hi1, if_true, hw, hwi, hx, Option.bind_some]
  by_cases h2 : Go.IntKind.wrap .i64 (Go.IntKind.wrap .i64 ((64 : Int) * x1) + x2) < zI q i
  ·simp [h2]
  ·by_cases h3 : i + 1 < (q.length : Int)
   ·simp [h2, h3]
   ·simp [h2, h3]
 ·intro again j hj
  unfold YO
  simp only [Bool.cond_eq_ite, decide_eq_true_eq, if_neg hj]
theorem y2e (q : List Int) (t : List y8) (i : Int) (ht : TOk t) (hi0 : 0 ≤ i) (hi : i < (t.length : Int)) (hq : q.length = t.length) : jt (q, t, i) = some (!zR (yer q i) (yn t i) 0) := by
 have hmem : yn t i ∈ t := z4 zo t i hi0 hi
 obtain ⟨hn, hs⟩ := ht.node hmem
 have hlen := ht.len
 have hq1 : i < (q.length : Int) := by omega
 have hq2 : q.length ≤ 1048576 := by omega
 unfold jt VA
 simp only [hi0, hi, if_true]
 generalize yn t i = n at *
 refine (zh (step := YP _ _) (fun k => (i, n, (n.length : Int), k, q, t)) (yer q i) (some false) (some true) z5 n (by omega) ?_ ?_).trans ?_
 ·intro again k h0 h1
  have hw : Go.IntKind.wrap .i64 (k + 1) = k + 1 := w64 (by omega) (by omega)
  have hsk : List.length (yh n k) ≤ 1048576 := hs _ (z4 z5 n k h0 h1)
  unfold YP yer
  have hx : n.getD k.toNat z5 = yh n k := rfl
  rw [hx]
  simp only [Bool.cond_eq_ite, decide_eq_true_eq, h0, h1, if_true, ycw _ _ i k (n.length : Int) q t n _ hi0 hq1 hq2 hsk, hw]
 ·intro again k hk
  unfold YP
  simp only [Bool.cond_eq_ite, decide_eq_true_eq, if_neg hk]
 ·cases zR (yer q i) n 0 <;> rfl
def ykP (q : List Int) (i : Int) : Bool := decide (0 < i) && decide (q.getD (i - 1).toNat 0 ≥ q.getD i.toNat 0)
def Qw (q : List Int) (i : Int) (n : y8) : Bool := ykP q i || !yaj q i n
def y3I (s : Int) (n : y8) : Int := Go.IntKind.wrap .i64 (s + ((vF n).length : Int))
def vG (q : List Int) (t : List y8) : Bool :=
 inR (t.length : Int) 1 20 && (decide (q.length = t.length) && ((q.getD 0 0 == 0) && (!zR (Qw q) t 0 && decide (((qN t).length : Int) ≤ 60))))
theorem yet : ∀ (t : List y8) (s : List ya), (s.length : Int) + ze VP t ≤ 1048576 → t.foldl y3I (s.length : Int) = ((t.foldl Kb s).length : Int)
 | [], _, _ => rfl
 | n :: t, s, h => by
  rw [zz] at h
  have h1 := y0V n
  have h2 := y0W n
  have h3 := z0 kI t
  have h4 : (Kb s n).length = s.length + (vF n).length := List.length_append
  rw [List.foldl_cons, List.foldl_cons, show y3I (s.length : Int) n = ((Kb s n).length : Int) by
   unfold y3I
   rw [h4, w64 (by omega) (by omega)]
   omega]
  exact yet t (Kb s n) (by rw [h4]; omega)
theorem y4l (q : List Int) (t : List y8) (ht : TOk t) : wh (q, t) = some (vG q t) := by
 have hlen := ht.len
 unfold wh vG
 simp only [Zf, Option.bind_some]
 cases h1 : inR (t.length : Int) 1 20
 ·rfl
 by_cases hq : q.length = t.length
 ·have hq' : ((q.length : Int) != (t.length : Int)) = false := by simp [hq]
  have hpos : 0 < (q.length : Int) := by
   have := (Zd.1 h1).1
   omega
  have hd : decide (q.length = t.length) = true := by simp [hq]
  simp only [hq', hd, Bool.not_true, cond_false, cond_true, Option.bind_some, Bool.true_and]
  rw [if_pos (Int.le_refl _), if_pos (by omega)]
  have e0 : zI q 0 = q.getD 0 0 := rfl
  rw [e0]
  try simp only [Option.bind_some]
  by_cases hz : q.getD 0 0 = 0
  ·have hz1 : (q.getD 0 0 != 0) = false := by rw [hz]; rfl
   have hz2 : (q.getD 0 0 == 0) = true := by rw [hz]; rfl
   rw [hz1, hz2]
   simp only [cond_false, Bool.true_and]
   unfold Q2
   refine (zh (step := jl _ _) (fun i => (i, q, t)) (Qw q) (some false) (some (decide (((qN t).length : Int) ≤ 60))) zo t (by omega) ?_ ?_).trans ?_
   ·intro again i h0 h1
    have hw : Go.IntKind.wrap .i64 (i + 1) = i + 1 := w64 (by omega) (by omega)
    have hm : Go.IntKind.wrap .i64 (i - 1) = i - 1 := w64 (by omega) (by omega)
    have e := y4k q t i ht h0 h1 hq
    unfold jl Qw ykP
    have hx : t.getD i.toNat zo = yn t i := rfl
    have e1 : q.getD i.toNat 0 = zI q i := rfl
    have e2 : q.getD (i - 1).toNat 0 = zI q (i - 1) := rfl
    rw [hx, e1, e2]
    simp only [Bool.cond_eq_ite, decide_eq_true_eq, h0, h1, if_true, hw, hm, e, gt_iff_lt]
    by_cases h5 : 0 < i
    ·rw [if_pos h5, if_pos (by omega), if_pos (by omega), if_pos (by omega)]
     simp only [h5, decide_true, Option.bind_some, Bool.true_and]
     cases decide (zI q (i - 1) ≥ zI q i) <;> cases yaj q i (yn t i) <;> rfl
    ·rw [if_neg h5]
     simp only [h5, decide_false, Option.bind_some, Bool.false_and]
     cases yaj q i (yn t i) <;> rfl
   ·intro again i hi
    have e : zT (q, t) = some (qN t) := qG q t (by omega) ht.nodes ht.sum
    unfold jl
    simp only [Bool.cond_eq_ite, decide_eq_true_eq, if_neg hi, e, Option.bind_some]
   ·cases zR (Qw q) t 0 <;> rfl
  ·have hz1 : (q.getD 0 0 != 0) = true := by simpa using hz
   have hz2 : (q.getD 0 0 == 0) = false := by simpa using hz
   rw [hz1, hz2]
   rfl
 ·have hq' : ((q.length : Int) != (t.length : Int)) = true := by
   simp only [bne_iff_ne, ne_eq]
   omega
  have hd : decide (q.length = t.length) = false := by simp [hq]
  simp only [hq', hd, Bool.not_true, cond_false, cond_true, Option.bind_some, Bool.false_and, Bool.and_false]
theorem y4m (q : List Int) (t : List y8) (ht : TOk t) : wD (q, t) = some (vG q t) := by
 have hlen := ht.len
 unfold wD vG
 simp only [zJ, Option.bind_some]
 cases h1 : inR (t.length : Int) 1 20
 ·rfl
 by_cases hq : q.length = t.length
 ·have hq' : ((q.length : Int) != (t.length : Int)) = false := by simp [hq]
  have hpos : 0 < (q.length : Int) := by
   have := (Zd.1 h1).1
   omega
  have hd : decide (q.length = t.length) = true := by simp [hq]
  simp only [hq', hd, Bool.not_true, cond_false, cond_true, Option.bind_some, Bool.true_and]
  rw [if_pos (Int.le_refl _), if_pos (by omega)]
  have e0 : zI q 0 = q.getD 0 0 := rfl
  rw [e0]
  try simp only [Option.bind_some]
  by_cases hz : q.getD 0 0 = 0
  ·have hz1 : (q.getD 0 0 != 0) = false := by rw [hz]; rfl
   have hz2 : (q.getD 0 0 == 0) = true := by rw [hz]; rfl
   rw [hz1, hz2]
   simp only [cond_false, Bool.true_and]
   unfold Qe
   refine (y2T (step := ju _ _) (fun (i s : Int) => (s, t, (t.length : Int), i, q, t)) (Qw q) y3I (some false) (fun s => some (decide (s ≤ 60))) zo t (by omega) ?_ ?_ 0).trans ?_
   ·intro again i s h0 h1
    have hmem : yn t i ∈ t := z4 zo t i h0 h1
    obtain ⟨hn, hss⟩ := ht.node hmem
    have hw : Go.IntKind.wrap .i64 (i + 1) = i + 1 := w64 (by omega) (by omega)
    have hm : Go.IntKind.wrap .i64 (i - 1) = i - 1 := w64 (by omega) (by omega)
    have e3 := y4j (yn t i) (by omega) (fun s hh => by have := hss s hh; omega)
    have e4 := y2e q t i ht h0 h1 hq
    have e5 : zW (yn t i) = some (vF (yn t i)) := qH _ (by omega) (ht.sumK hmem)
    unfold ju Qw ykP yaj yes y3I
    have hx : t.getD i.toNat zo = yn t i := rfl
    have e1 : q.getD i.toNat 0 = zI q i := rfl
    have e2 : q.getD (i - 1).toNat 0 = zI q (i - 1) := rfl
    rw [hx, e1, e2]
    simp only [Bool.cond_eq_ite, decide_eq_true_eq, h0, h1, if_true, hw, hm, e3, e4, e5, gt_iff_lt, Option.bind_some]
    by_cases h5 : 0 < i
    ·rw [if_pos h5, if_pos (by omega), if_pos (by omega), if_pos (by omega)]
     simp only [h5, decide_true, Option.bind_some, Bool.true_and, if_true]
     cases decide (zI q (i - 1) ≥ zI q i) <;> cases ko (yn t i) <;> cases zR (yer q i) (yn t i) 0 <;> cases (((vF (yn t i)).length : Int) == 0) <;> rfl
    ·rw [if_neg h5]
     simp only [h5, decide_false, Option.bind_some, Bool.false_and, if_false]
     cases ko (yn t i) <;> cases zR (yer q i) (yn t i) 0 <;> rfl
   ·intro again i s hi
    unfold ju
    simp only [Bool.cond_eq_ite, decide_eq_true_eq, if_neg hi]
   ·have := yet t [] (by have := ht.sum; simpa using this)
    simp only [List.length_nil] at this
    rw [show ((0 : Nat) : Int) = 0 from rfl] at this
    rw [this]
    unfold qN
    cases zR (Qw q) t 0 <;> rfl
  ·have hz1 : (q.getD 0 0 != 0) = true := by simpa using hz
   have hz2 : (q.getD 0 0 == 0) = false := by simpa using hz
   rw [hz1, hz2]
   rfl
 ·have hq' : ((q.length : Int) != (t.length : Int)) = true := by
   simp only [bne_iff_ne, ne_eq]
   omega
  have hd : decide (q.length = t.length) = false := by simp [hq]
  simp only [hq', hd, Bool.not_true, cond_false, cond_true, Option.bind_some, Bool.false_and, Bool.and_false]
end Go.Proofs.YtmapoakbdgpamaaGreat.Pl
namespace Go.Proofs.YtmapoakbdgpamaaGreat.Pl
open Go.Proofs.YtmapoakbdgpamaaGreat.R Go.Proofs.YtmapoakbdgpamaaGreat.XN
def isW (n : Int) : Bool := inR n 0 65535
theorem yeu (x : Int) : wk x = some (isW x) := by unfold wk; rw [Zf]; rfl
theorem yev (x : Int) : wF x = some (isW x) := by unfold wF; rw [zJ]; rfl
def y7v (c : Int) : Bool := inR c 97 122 || inR c 48 57
def qk (l : List UInt8) : Bool := l.all fun c => y7v (c.toNat : Int)
def y20 (s : ByteArray) : Bool := qk s.data.toList && inR s.size 1 6
theorem ybz (c : UInt8) : Go.IntKind.wrap .i64 (c.toNat : Int) = c.toNat := by
 have := c.toNat_lt
 exact w64 (by omega) (by omega)
theorem ygM (s : ByteArray) (i : Nat) (h : i < s.size) : ByteArray.get s i h = s.data.toList[i]'(by rw [Array.length_toList]; exact h) := by
 rw [Array.getElem_toList]
 rfl
theorem y8N (s : ByteArray) (i : Nat) (h : i < s.size) : s.data.toList.drop i = ByteArray.get s i h :: s.data.toList.drop (i + 1) := by
 rw [ygM, ← List.drop_eq_getElem_cons]
theorem y4n (s : ByteArray) (hs : s.size ≤ maxLen) : wl s = some (y20 s) := by
 have hm : (s.size : Int) ≤ 9223372036854775807 := by simp only [maxLen] at hs; omega
 unfold wl Q4
 rw [Yj (fun t : ByteArray × Int => t.1.size - t.2.toNat) (fun t => t.1 = s ∧ 0 ≤ t.2 ∧ t.2 ≤ s.size) (fun t => if qk (t.1.data.toList.drop t.2.toNat) then some (inR s.size 1 6) else some false) ?_ (s, 0) ⟨rfl, by simp, by simp⟩ (by simp only [maxLen] at hs; simp; omega)]
 ·unfold y20
  cases h : qk s.data.toList <;> simp [h]
 ·rintro again ⟨s', i⟩ ⟨rfl, h0, h1⟩ hag
  simp only at h0 h1 hs hm ⊢
  unfold v9
  simp only [Bool.cond_eq_ite, decide_eq_true_eq]
  by_cases hi : i < (s'.size : Int)
  ·have hn : i.toNat < s'.size := by omega
   rw [if_pos hi, if_pos h0, dif_pos hn]
   simp only [Zf, Option.bind_some, if_pos h0, dif_pos hn, ybz]
   rw [y8N s' i.toNat hn]
   have hw : Go.IntKind.wrap .i64 (i + 1) = i + 1 := w64 (by omega) (by omega)
   have e1 : (i + 1).toNat = i.toNat + 1 := by omega
   have hag' := hag (s', i + 1) ⟨rfl, by simp only; omega, by simp only; omega⟩ (by simp only; omega)
   simp only [qk, List.all_cons, y7v] at hag' ⊢
   rw [hw, hag', e1]
   obtain ⟨c, hc⟩ : ∃ c, ByteArray.get s' i.toNat hn = c := ⟨_, rfl⟩
   simp only [hc]
   cases inR (c.toNat : Int) 97 122 <;> cases inR (c.toNat : Int) 48 57 <;> simp
  ·rw [if_neg hi, List.drop_of_length_le (by rw [Array.length_toList]; show s'.size ≤ _; omega)]
   simp [qk, Zf]
theorem y4o (s : ByteArray) (hs : s.size ≤ maxLen) : wG s = some (y20 s) := by
 have hm : (s.size : Int) ≤ 9223372036854775807 := by simp only [maxLen] at hs; omega
 unfold wG Qh
 rw [Yj (fun t : ByteArray × Int => t.1.size - t.2.toNat) (fun t => t.1 = s ∧ 0 ≤ t.2 ∧ t.2 ≤ s.size) (fun t => if qk (t.1.data.toList.drop t.2.toNat) then some (inR s.size 1 6) else some false) ?_ (s, 0) ⟨rfl, by simp, by simp⟩ (by simp only [maxLen] at hs; simp; omega)]
 ·unfold y20
  cases h : qk s.data.toList <;> simp [h]
 ·rintro again ⟨s', i⟩ ⟨rfl, h0, h1⟩ hag
  simp only at h0 h1 hs hm ⊢
  unfold vk
  simp only [Bool.cond_eq_ite, decide_eq_true_eq]
  by_cases hi : i < (s'.size : Int)
  ·have hn : i.toNat < s'.size := by omega
   rw [if_pos hi, if_pos h0, dif_pos hn]
   simp only [zJ, Option.bind_some, if_pos h0, dif_pos hn, ybz]
   rw [y8N s' i.toNat hn]
   have hw : Go.IntKind.wrap .i64 (i + 1) = i + 1 := w64 (by omega) (by omega)
   have e1 : (i + 1).toNat = i.toNat + 1 := by omega
   have hag' := hag (s', i + 1) ⟨rfl, by simp only; omega, by simp only; omega⟩ (by simp only; omega)
   simp only [qk, List.all_cons, y7v] at hag' ⊢
   rw [hw, hag', e1]
   obtain ⟨c, hc⟩ : ∃ c, ByteArray.get s' i.toNat hn = c := ⟨_, rfl⟩
   simp only [hc]
   cases inR (c.toNat : Int) 97 122 <;> cases inR (c.toNat : Int) 48 57 <;> simp
  ·rw [if_neg hi, List.drop_of_length_le (by rw [Array.length_toList]; show s'.size ≤ _; omega)]
   simp [qk, zJ]
end Go.Proofs.YtmapoakbdgpamaaGreat.Pl
namespace Go.Proofs.YtmapoakbdgpamaaGreat.Pl
open Go.Proofs.YtmapoakbdgpamaaGreat.R Go.Proofs.YtmapoakbdgpamaaGreat.XN
def yew (l : List yq) (i : Int) : List yq := List.drop (Int.toNat (0 : Int)) (List.take (Int.toNat i) l)
def yak (l : List yq) (i : Int) (a : yq) : Bool := !inR a.1 1 60 || ((decide (0 < i) && decide ((l.getD (i - 1).toNat kC).1 ≥ a.1)) || (a.2 != 0 && decide (kJ (yew l i) a.2 < 0)))
def Vl (l : List yq) : Bool := !zR (yak l) l 0 && decide ((l.length : Int) ≤ 16)
theorem ybA (l : List yq) (i : Int) : (yew l i).length ≤ l.length := by
 unfold yew
 simp only [List.length_drop, List.length_take]
 omega
theorem y4p (l : List yq) (hl : l.length ≤ 1048576) : wj l = some (Vl l) := by
 unfold wj Q3 Vl
 refine (zh (step := jm _ _) (fun i => (l, i)) (yak l) (some false) (some (decide ((l.length : Int) ≤ 16))) kC l (by omega) ?_ ?_).trans ?_
 ·intro again i h0 h1
  have hw : Go.IntKind.wrap .i64 (i + 1) = i + 1 := w64 (by omega) (by omega)
  have hm : Go.IntKind.wrap .i64 (i - 1) = i - 1 := w64 (by omega) (by omega)
  unfold jm yak
  obtain ⟨⟨x1, x2⟩, hx⟩ : ∃ x, z8 l i = x := ⟨_, rfl⟩
  have hx' : l.getD i.toNat kC = (x1, x2) := hx
  have hy : l.getD (i - 1).toNat kC = z8 l (i - 1) := rfl
  have e : Zj (List.drop (Int.toNat (0 : Int)) (List.take (Int.toNat i) l), x2) = some (kJ (yew l i) x2) := qi (yew l i) x2 (by have := ybA l i; omega)
  rw [hx', hy]
  have h2 : i ≤ (l.length : Int) := by omega
  simp only [Bool.cond_eq_ite, decide_eq_true_eq, h0, h1, h2, if_true, hw, hm, hx, Zf, e, Option.bind_some, Int.le_refl, gt_iff_lt]
  cases inR x1 1 60
  ·rfl
  ·by_cases h5 : 0 < i
   ·have h3 : 0 ≤ i - 1 := by omega
    have h4 : i - 1 < (l.length : Int) := by omega
    simp only [h5, h3, h4, if_true, decide_true]
    cases decide ((z8 l (i - 1)).1 ≥ x1) <;> cases (x2 != 0) <;> cases decide (kJ (yew l i) x2 < 0) <;> rfl
   ·simp only [h5, if_false, decide_false]
    cases (x2 != 0) <;> cases decide (kJ (yew l i) x2 < 0) <;> rfl
 ·intro again i hi
  unfold jm
  simp only [Bool.cond_eq_ite, decide_eq_true_eq, if_neg hi]
 ·cases zR (yak l) l 0 <;> rfl
theorem y4q (l : List yq) (hl : l.length ≤ 1048576) : wE l = some (Vl l) := by
 unfold wE Qg Vl
 refine (zh (step := jx _ _) (fun i => (l, l, (l.length : Int), i)) (yak l) (some false) (some (decide ((l.length : Int) ≤ 16))) kC l (by omega) ?_ ?_).trans ?_
 ·intro again i h0 h1
  have hw : Go.IntKind.wrap .i64 (i + 1) = i + 1 := w64 (by omega) (by omega)
  have hm : Go.IntKind.wrap .i64 (i - 1) = i - 1 := w64 (by omega) (by omega)
  unfold jx yak
  obtain ⟨⟨x1, x2⟩, hx⟩ : ∃ x, z8 l i = x := ⟨_, rfl⟩
  have hx' : l.getD i.toNat kC = (x1, x2) := hx
  have hy : l.getD (i - 1).toNat kC = z8 l (i - 1) := rfl
  have e : Zk (List.drop (Int.toNat (0 : Int)) (List.take (Int.toNat i) l), x2) = some (kJ (yew l i) x2) := qj (yew l i) x2 (by have := ybA l i; omega)
  rw [hx', hy]
  have h2 : i ≤ (l.length : Int) := by omega
  simp only [Bool.cond_eq_ite, decide_eq_true_eq, h0, h1, h2, if_true, hw, hm, hx, zJ, e, Option.bind_some, Int.le_refl, gt_iff_lt]
  cases inR x1 1 60
  ·rfl
  ·by_cases h5 : 0 < i
   ·have h3 : 0 ≤ i - 1 := by omega
    have h4 : i - 1 < (l.length : Int) := by omega
    simp only [h5, h3, h4, if_true, decide_true]
    cases decide ((z8 l (i - 1)).1 ≥ x1) <;> cases (x2 != 0) <;> cases decide (kJ (yew l i) x2 < 0) <;> rfl
   ·simp only [h5, if_false, decide_false]
    cases (x2 != 0) <;> cases decide (kJ (yew l i) x2 < 0) <;> rfl
 ·intro again i hi
  unfold jx
  simp only [Bool.cond_eq_ite, decide_eq_true_eq, if_neg hi]
 ·cases zR (yak l) l 0 <;> rfl
def y0Z (id : Int) (s : List Int) (a : yq) : List Int := if (a.2 == id && id != 0) = true then s ++ [a.1] else s
def y07 (l : List yq) (id : Int) : List Int := l.foldl (y0Z id) []
theorem y5i (id : Int) (s : List Int) (a : yq) : (y0Z id s a).length ≤ s.length + 1 := by
 unfold y0Z
 split <;> simp
theorem y4r (l : List yq) (id : Int) (hl : l.length ≤ 1048576) : wm (l, id) = some (y07 l id) := by
 unfold wm Q5 y07
 refine Yk (step := jn _) (fun (i : Int) (s : List Int) => (l, id, i, s)) (fun s => some s) kC (y0Z id) l (by omega) (fun i s => s.length ≤ i) ?_ ?_ [] (by simp)
 ·intro again i s h0 h1 hI
  have hw : Go.IntKind.wrap .i64 (i + 1) = i + 1 := w64 (by omega) (by omega)
  have hs := y5i id s (l.getD i.toNat kC)
  refine ⟨?_, by omega⟩
  have c1 : (s.length + 1) * 8 < 140737488355328 := by omega
  clear hs
  unfold jn y0Z
  obtain ⟨⟨x1, x2⟩, hx⟩ : ∃ x, z8 l i = x := ⟨_, rfl⟩
  have hx' : l.getD i.toNat kC = (x1, x2) := hx
  rw [hx']
  simp only [Bool.cond_eq_ite, decide_eq_true_eq, h0, h1, if_true, hw, hx, List.length_cons, List.length_nil, Nat.zero_add, c1]
  cases (x2 == id) <;> cases (id != 0) <;> rfl
 ·intro again i s hi
  unfold jn
  simp only [Bool.cond_eq_ite, decide_eq_true_eq, if_neg hi]
theorem yex (l : List yq) : y07 l 0 = [] := by
 have : ∀ (l : List yq) (s : List Int), l.foldl (y0Z 0) s = s := by
  intro l
  induction l with
  | nil => intro s; rfl
  | cons a l ih =>
   intro s
   rw [List.foldl_cons, ih]
   unfold y0Z
   simp
 exact this l []
theorem y4s (l : List yq) (id : Int) (hl : l.length ≤ 1048576) : wH (l, id) = some (y07 l id) := by
 unfold wH
 by_cases hid : id = 0
 ·subst hid
  rw [yex]
  rfl
 ·have hid1 : (id == 0) = false := by simpa using hid
  have hid2 : (id != 0) = true := by simpa using hid
  simp only [hid1, cond_false]
  unfold Qi y07
  refine Yk (step := jy _) (fun (i : Int) (s : List Int) => (id, l, (l.length : Int), i, s)) (fun s => some s) kC (y0Z id) l (by omega) (fun i s => s.length ≤ i) ?_ ?_ [] (by simp)
  ·intro again i s h0 h1 hI
   have hw : Go.IntKind.wrap .i64 (i + 1) = i + 1 := w64 (by omega) (by omega)
   have hs := y5i id s (l.getD i.toNat kC)
   refine ⟨?_, by omega⟩
   have c1 : (s.length + 1) * 8 < 140737488355328 := by omega
   clear hs
   unfold jy y0Z
   obtain ⟨⟨x1, x2⟩, hx⟩ : ∃ x, z8 l i = x := ⟨_, rfl⟩
   have hx' : l.getD i.toNat kC = (x1, x2) := hx
   rw [hx']
   simp only [Bool.cond_eq_ite, decide_eq_true_eq, h0, h1, if_true, hw, hx, List.length_cons, List.length_nil, Nat.zero_add, c1, hid2]
   cases (x2 == id) <;> rfl
  ·intro again i s hi
   unfold jy
   simp only [Bool.cond_eq_ite, decide_eq_true_eq, if_neg hi]
def yal (_ : Int) (a : yb) : Bool := !inR a.1 0 999 || (!isW a.2.2 || (!a.2.1 && a.2.2 != 0))
def Wf (l : List yb) : Bool := !zR yal l 0 && ((l.length : Int) == 24)
theorem y3J (l : List yb) (hl : l.length ≤ 1048576) : Je l = some (Wf l) := by
 unfold Je qu Wf
 refine (zh (step := ZA _ _) (fun i => (l, i)) yal (some false) (some ((l.length : Int) == 24)) JZ l (by omega) ?_ ?_).trans ?_
 ·intro again i h0 h1
  have hw : Go.IntKind.wrap .i64 (i + 1) = i + 1 := w64 (by omega) (by omega)
  unfold ZA yal
  obtain ⟨⟨x1, x2, x3⟩, hx⟩ : ∃ x, ym l i = x := ⟨_, rfl⟩
  have hx' : l.getD i.toNat JZ = (x1, x2, x3) := hx
  rw [hx']
  simp only [Bool.cond_eq_ite, decide_eq_true_eq, h0, h1, if_true, hw, hx, Zf, yeu, Option.bind_some]
  cases inR x1 0 999 <;> cases isW x3 <;> cases x2 <;> cases (x3 != 0) <;> rfl
 ·intro again i hi
  unfold ZA
  simp only [Bool.cond_eq_ite, decide_eq_true_eq, if_neg hi]
 ·cases zR yal l 0 <;> rfl
theorem y3K (l : List yb) (hl : l.length ≤ 1048576) : Jn l = some (Wf l) := by
 unfold Jn qx Wf
 refine (zh (step := ZH _ _) (fun i => (l, l, (l.length : Int), i)) yal (some false) (some ((l.length : Int) == 24)) JZ l (by omega) ?_ ?_).trans ?_
 ·intro again i h0 h1
  have hw : Go.IntKind.wrap .i64 (i + 1) = i + 1 := w64 (by omega) (by omega)
  unfold ZH yal
  obtain ⟨⟨x1, x2, x3⟩, hx⟩ : ∃ x, ym l i = x := ⟨_, rfl⟩
  have hx' : l.getD i.toNat JZ = (x1, x2, x3) := hx
  rw [hx']
  simp only [Bool.cond_eq_ite, decide_eq_true_eq, h0, h1, if_true, hw, hx, zJ, yev, Option.bind_some]
  cases inR x1 0 999 <;> cases isW x3 <;> cases x2 <;> cases (x3 != 0) <;> rfl
 ·intro again i hi
  unfold ZH
  simp only [Bool.cond_eq_ite, decide_eq_true_eq, if_neg hi]
 ·cases zR yal l 0 <;> rfl
def y3L (s : Int) (a : yb) : Int := if a.2.1 = true then Go.IntKind.wrap .i64 (s + 1) else s
def y8O (l : List yb) : Int := l.foldl y3L 0
theorem y8P (l : List yb) (hl : l.length ≤ 1048576) : ZD l = some (y8O l) := by
 unfold ZD vQ y8O
 refine Yk (step := Yv _) (fun (i s : Int) => (l, s, i)) (fun s => some s) JZ y3L l (by omega) (fun _ _ => True) ?_ ?_ 0 trivial
 ·intro again i s h0 h1 _
  have hw : Go.IntKind.wrap .i64 (i + 1) = i + 1 := w64 (by omega) (by omega)
  refine ⟨?_, trivial⟩
  unfold Yv y3L
  obtain ⟨⟨x1, x2, x3⟩, hx⟩ : ∃ x, ym l i = x := ⟨_, rfl⟩
  have hx' : l.getD i.toNat JZ = (x1, x2, x3) := hx
  rw [hx']
  simp only [Bool.cond_eq_ite, decide_eq_true_eq, h0, h1, if_true, hw, hx]
  cases x2 <;> rfl
 ·intro again i s hi
  unfold Yv
  simp only [Bool.cond_eq_ite, decide_eq_true_eq, if_neg hi]
theorem y8Q (l : List yb) (hl : l.length ≤ 1048576) : ZI l = some (y8O l) := by
 unfold ZI vU y8O
 refine Yk (step := Yx _) (fun (i s : Int) => (s, l, (l.length : Int), i)) (fun s => some s) JZ y3L l (by omega) (fun _ _ => True) ?_ ?_ 0 trivial
 ·intro again i s h0 h1 _
  have hw : Go.IntKind.wrap .i64 (i + 1) = i + 1 := w64 (by omega) (by omega)
  refine ⟨?_, trivial⟩
  unfold Yx y3L
  obtain ⟨⟨x1, x2, x3⟩, hx⟩ : ∃ x, ym l i = x := ⟨_, rfl⟩
  have hx' : l.getD i.toNat JZ = (x1, x2, x3) := hx
  rw [hx']
  simp only [Bool.cond_eq_ite, decide_eq_true_eq, h0, h1, if_true, hw, hx]
  cases x2 <;> rfl
 ·intro again i s hi
  unfold Yx
  simp only [Bool.cond_eq_ite, decide_eq_true_eq, if_neg hi]
def Vm (l : List yb) (i gen : Int) : Int × Bool :=
 if inR i 0 ((l.length : Int) - 1) && ((l.getD i.toNat JZ).2.1 && ((l.getD i.toNat JZ).1 == gen)) then ((l.getD i.toNat JZ).2.2, true) else (0, false)
theorem y08 (l : List yb) (i gen : Int) (hl : l.length ≤ 1048576) : jT (l, i, gen) = some (Vm l i gen) := by
 unfold jT Vm
 have hm : Go.IntKind.wrap .i64 ((l.length : Int) - 1) = (l.length : Int) - 1 := w64 (by omega) (by omega)
 obtain ⟨⟨x1, x2, x3⟩, hx⟩ : ∃ x, ym l i = x := ⟨_, rfl⟩
 have hx' : l.getD i.toNat JZ = (x1, x2, x3) := hx
 rw [hx']
 simp only [hm, hx, Zf, Option.bind_some]
 by_cases hr : inR i 0 ((l.length : Int) - 1) = true
 ·obtain ⟨h0, h1⟩ := Zd.1 hr
  rw [hr, if_pos h0, if_pos (by omega), if_pos h0, if_pos (by omega), if_pos h0, if_pos (by omega)]
  by_cases hg : x1 = gen
  ·have g1 : (x1 != gen) = false := by simp [hg]
   have g2 : (x1 == gen) = true := by simp [hg]
   rw [g1, g2]
   cases x2 <;> rfl
  ·have g1 : (x1 != gen) = true := by simpa using hg
   have g2 : (x1 == gen) = false := by simpa using hg
   rw [g1, g2]
   cases x2 <;> rfl
 ·have : inR i 0 ((l.length : Int) - 1) = false := by simpa using hr
  rw [this]
  rfl
theorem y4t (l : List yb) (i gen : Int) (hl : l.length ≤ 1048576) : wM (l, i, gen) = some (Vm l i gen) := by
 rw [← y08 l i gen hl]
 unfold wM jT
 simp only [zJ, Zf]
end Go.Proofs.YtmapoakbdgpamaaGreat.Pl
namespace Go.Proofs.YtmapoakbdgpamaaGreat.Pl
open Go.Proofs.YtmapoakbdgpamaaGreat.R Go.Proofs.YtmapoakbdgpamaaGreat.XN
theorem ybB {A : Type} (p : A → Bool) : ∀ (l : List A) (i j : Int), 0 ≤ i → decide (0 ≤ qO p l i) = zR (fun _ a => p a) l j
 | [], i, j, _ => rfl
 | a :: l, i, j, h => by
  rw [qO, zR, ← ybB p l (i + 1) (j + 1) (by omega)]
  cases p a with
  | true => simp [h]
  | false => rfl
theorem y8R {A : Type} (da : A) (l : List A) (i j : Int) (h0 : 0 ≤ j) (h : j < i) : (l.take i.toNat).getD j.toNat da = l.getD j.toNat da := by
 rw [List.getD_eq_getElem?_getD, List.getD_eq_getElem?_getD, List.getElem?_take, if_pos (by omega)]
theorem ybC {A : Type} (l : List A) (i : Int) (h0 : 0 ≤ i) (h : i ≤ (l.length : Int)) : ((l.take i.toNat).length : Int) = i := by
 rw [List.length_take]
 omega
def Vn (age : Int) (_ : Int) (u : yD) : Bool := u.2.1 == age
def yih (vs : List yD) (l : List yq) (i : Int) (v : yD) : Bool :=
 !y20 v.1 || (!inR v.2.2.1 1 12 || (decide (kJ l v.2.1 < 0) || (decide (((y07 l v.2.1).length : Int) > 0) || ((decide (0 < i) && !Go.Op.bytesLess (ByteArray.toList (vs.getD (i - 1).toNat qa).1) (ByteArray.toList v.1)) || zR (Vn v.2.1) (vs.take i.toNat) 0))))
def Vo (vs : List yD) (l : List yq) : Bool := !zR (yih vs l) vs 0 && decide ((vs.length : Int) ≤ 6)
theorem y3M {R : Type} (k0 : (Bool × Int × List yx × List y8 × List yq × List yb × List yD × Int) → Option R) (k1 : (Int × List yx × List y8 × List yq × List yb × List yD × Int) → Option R) (i : Int) (q : List Int) (t : List y8) (l : List yq) (cs : List yb) (vs : List yD) (z : Int) (v1 : ByteArray) (v2 v3 : Int) (v4 : Bool) (h0 : 0 ≤ i) (h1 : i ≤ (vs.length : Int)) (hv : vs.length ≤ 1048576) :
  kS k0 k1 (i, 0, q, t, l, cs, vs, z, v1, v2, v3, v4) = if zR (Vn v2) (vs.take i.toNat) 0 = true then k0 (false, i, q, t, l, cs, vs, z) else k1 (i, q, t, l, cs, vs, z) := by
 unfold kS
 have hlen := ybC vs i h0 h1
 refine zh (step := ZB k0 k1) (fun k => (i, k, q, t, l, cs, vs, z, v1, v2, v3, v4)) (Vn v2) _ _ qa (vs.take i.toNat) (by omega) ?_ ?_
 ·intro again k hk0 hk1
  rw [hlen] at hk1
  have hw : Go.IntKind.wrap .i64 (k + 1) = k + 1 := w64 (by omega) (by omega)
  have hk2 : k < (vs.length : Int) := by omega
  unfold ZB Vn
  rw [y8R qa vs i k hk0 hk1]
  have hx : vs.getD k.toNat qa = yo vs k := rfl
  rw [hx]
  simp only [Bool.cond_eq_ite, decide_eq_true_eq, hk0, hk1, hk2, if_true, hw]
 ·intro again k hk
  rw [hlen] at hk
  unfold ZB
  simp only [Bool.cond_eq_ite, decide_eq_true_eq, if_neg hk]
theorem y8S (q : List Int) (t : List y8) (l : List yq) (cs : List yb) (vs : List yD) (z : Int) (hl : l.length ≤ 1048576) (hv : vs.length ≤ 1048576) (hvn : ∀ v ∈ vs, ByteArray.size v.1 ≤ maxLen) : Jf (q, t, l, cs, vs, z) = some (Vo vs l) := by
 unfold Jf qv Vo
 refine (zh (step := ZC _ _) (fun i => (i, q, t, l, cs, vs, z)) (yih vs l) (some false) (some (decide ((vs.length : Int) ≤ 6))) qa vs (by omega) ?_ ?_).trans ?_
 ·intro again i h0 h1
  have hw : Go.IntKind.wrap .i64 (i + 1) = i + 1 := w64 (by omega) (by omega)
  have hm : Go.IntKind.wrap .i64 (i - 1) = i - 1 := w64 (by omega) (by omega)
  have hmem := hvn _ (z4 qa vs i h0 h1)
  unfold ZC yih
  obtain ⟨⟨x1, x2, x3, x4⟩, hx⟩ : ∃ x, yo vs i = x := ⟨_, rfl⟩
  have hx' : vs.getD i.toNat qa = (x1, x2, x3, x4) := hx
  have hy : vs.getD (i - 1).toNat qa = yo vs (i - 1) := rfl
  rw [hx'] at hmem
  rw [hx', hy]
  have e1 := y4n x1 hmem
  have e2 := qi l x2 (by omega)
  have e3 := y4r l x2 hl
  simp only [Bool.cond_eq_ite, decide_eq_true_eq, h0, h1, if_true, hw, hm, hx, Zf, e1, e2, e3, y3M _ _ i q t l cs vs z x1 x2 x3 x4 h0 (by omega) hv, Option.bind_some, gt_iff_lt]
  cases y20 x1
  ·rfl
  by_cases h5 : 0 < i
  ·have h3 : 0 ≤ i - 1 := by omega
   have h4 : i - 1 < (vs.length : Int) := by omega
   simp only [h5, h3, h4, if_true, decide_true]
   by_cases ha : kJ l x2 < 0 <;> by_cases hk : (0 : Int) < ((y07 l x2).length : Int) <;> simp only [ha, hk, if_true, if_false, decide_true, decide_false] <;> cases Go.Op.bytesLess (ByteArray.toList (yo vs (i - 1)).1) (ByteArray.toList x1) <;> cases inR x3 1 12 <;> cases zR (Vn x2) (vs.take i.toNat) 0 <;> rfl
  ·simp only [h5, if_false, decide_false]
   by_cases ha : kJ l x2 < 0 <;> by_cases hk : (0 : Int) < ((y07 l x2).length : Int) <;> simp only [ha, hk, if_true, if_false, decide_true, decide_false] <;> cases inR x3 1 12 <;> cases zR (Vn x2) (vs.take i.toNat) 0 <;> rfl
 ·intro again i hi
  unfold ZC
  simp only [Bool.cond_eq_ite, decide_eq_true_eq, if_neg hi]
 ·cases zR (yih vs l) vs 0 <;> rfl
theorem yam (l : List yD) (v1 : ByteArray) (v2 v3 : Int) (v4 : Bool) (hl : l.length ≤ 1048576) : yC (l, v1, v2, v3, v4) = some (zR (Vn v2) l 0, v1, v2, v3, v4) := by
 have key : yN (l, v1, v2, v3, v4) = some (qO (fun u : yD => u.2.1 == v2) l 0, v1, v2, v3, v4) := by
  unfold yN zZ
  refine (y3G (step := yJ _ _) (fun i => (l, (l.length : Int), i, v1, v2, v3, v4)) (fun u : yD => u.2.1 == v2) (fun x => some (x, v1, v2, v3, v4)) (some (-1, v1, v2, v3, v4)) qa l (by omega) ?_ ?_).trans ?_
  ·intro again i h0 h1
   have hw : Go.IntKind.wrap .i64 (i + 1) = i + 1 := w64 (by omega) (by omega)
   unfold yJ wI
   simp only [Bool.cond_eq_ite, decide_eq_true_eq, h0, h1, if_true, hw, Option.bind_some]
   rfl
  ·intro again i hi
   unfold yJ
   simp only [Bool.cond_eq_ite, decide_eq_true_eq, if_neg hi]
  ·rcases y1w (fun u : yD => u.2.1 == v2) qa l 0 (Int.le_refl _) with h | ⟨h1, h2, h3⟩
   ·rw [h]
    rfl
   ·rw [if_neg (by omega)]
 unfold yC
 rw [key]
 simp only [Option.bind_some, ge_iff_le]
 rw [ybB _ l 0 0 (Int.le_refl _)]
 rfl
theorem y8T (q : List Int) (t : List y8) (l : List yq) (cs : List yb) (vs : List yD) (z : Int) (hl : l.length ≤ 1048576) (hv : vs.length ≤ 1048576) (hvn : ∀ v ∈ vs, ByteArray.size v.1 ≤ maxLen) : wL (q, t, l, cs, vs, z) = some (Vo vs l) := by
 unfold wL Qj Vo
 refine (zh (step := jz _ _) (fun i => (vs, (vs.length : Int), i, q, t, l, cs, vs, z)) (yih vs l) (some false) (some (decide ((vs.length : Int) ≤ 6))) qa vs (by omega) ?_ ?_).trans ?_
 ·intro again i h0 h1
  have hw : Go.IntKind.wrap .i64 (i + 1) = i + 1 := w64 (by omega) (by omega)
  have hm : Go.IntKind.wrap .i64 (i - 1) = i - 1 := w64 (by omega) (by omega)
  have hmem := hvn _ (z4 qa vs i h0 h1)
  unfold jz yih
  obtain ⟨⟨x1, x2, x3, x4⟩, hx⟩ : ∃ x, yo vs i = x := ⟨_, rfl⟩
  have hx' : vs.getD i.toNat qa = (x1, x2, x3, x4) := hx
  have hy : vs.getD (i - 1).toNat qa = yo vs (i - 1) := rfl
  rw [hx'] at hmem
  rw [hx', hy]
  have e1 := y4o x1 hmem
  have e2 := qj l x2 (by omega)
  have e3 := y4s l x2 hl
  have e4 : yC (List.drop (Int.toNat (0 : Int)) (List.take (Int.toNat i) vs), x1, x2, x3, x4) = some (zR (Vn x2) (vs.take i.toNat) 0, x1, x2, x3, x4) := yam (vs.take i.toNat) x1 x2 x3 x4 (by simp only [List.length_take]; omega)
  have h2 : i ≤ (vs.length : Int) := by omega
  simp only [Bool.cond_eq_ite, decide_eq_true_eq, h0, h1, h2, if_true, hw, hm, hx, zJ, e1, e2, e3, e4, Option.bind_some, gt_iff_lt, Int.le_refl]
  cases y20 x1
  ·rfl
  by_cases h5 : 0 < i
  ·have h3 : 0 ≤ i - 1 := by omega
   have h4 : i - 1 < (vs.length : Int) := by omega
   simp only [h5, h3, h4, if_true, decide_true]
   by_cases ha : kJ l x2 < 0 <;> by_cases hk : (0 : Int) < ((y07 l x2).length : Int) <;> simp only [ha, hk, if_true, if_false, decide_true, decide_false] <;> cases Go.Op.bytesLess (ByteArray.toList (yo vs (i - 1)).1) (ByteArray.toList x1) <;> cases inR x3 1 12 <;> cases zR (Vn x2) (vs.take i.toNat) 0 <;> rfl
  ·simp only [h5, if_false, decide_false]
   by_cases ha : kJ l x2 < 0 <;> by_cases hk : (0 : Int) < ((y07 l x2).length : Int) <;> simp only [ha, hk, if_true, if_false, decide_true, decide_false] <;> cases inR x3 1 12 <;> cases zR (Vn x2) (vs.take i.toNat) 0 <;> rfl
 ·intro again i hi
  unfold jz
  simp only [Bool.cond_eq_ite, decide_eq_true_eq, if_neg hi]
 ·cases zR (yih vs l) vs 0 <;> rfl
end Go.Proofs.YtmapoakbdgpamaaGreat.Pl
namespace Go.Proofs.YtmapoakbdgpamaaGreat.Pl
open Go.Proofs.YtmapoakbdgpamaaGreat.R Go.Proofs.YtmapoakbdgpamaaGreat.XN
def jO (c : Int) (_ : Int) (u : ya) : Bool := (u.2.2.1 == 1) && (u.2.2.2.1 == c)
def yeT (ks : List ya) (l : List yq) (cs : List yb) (i : Int) (a : ya) : Bool :=
 decide (kJ l a.2.1 < 0) || ((a.2.2.1 == 1) && (!(Vm cs a.2.2.2.1 a.2.2.2.2).2 || zR (jO a.2.2.2.1) (ks.take i.toNat) 0))
def y5j (n : Int) (a : ya) : Int := if (a.2.2.1 == 1) = true then Go.IntKind.wrap .i64 (n + 1) else n
def qm (ks : List ya) (l : List yq) (cs : List yb) : Bool := !zR (yeT ks l cs) ks 0 && (ks.foldl y5j 0 == y8O cs)
theorem y3N {R : Type} (k0 : (Bool × Int × Int × List yx × List y8 × List yq × List yb × List yD × Int × List ya) → Option R) (k1 : (Int × Int × List yx × List y8 × List yq × List yb × List yD × Int × List ya) → Option R) (n i : Int) (q : List Int) (t : List y8) (l : List yq) (cs : List yb) (vs : List yD) (z : Int) (ks : List ya) (h0 : 0 ≤ i) (h1 : i < (ks.length : Int)) (hk : ks.length ≤ 1048576) :
  Wx k0 k1 (n, i, 0, q, t, l, cs, vs, z, ks) = if zR (jO (y0 ks i).2.2.2.1) (ks.take i.toNat) 0 = true then k0 (false, n, i, q, t, l, cs, vs, z, ks) else k1 (n, i, q, t, l, cs, vs, z, ks) := by
 unfold Wx
 have hlen := ybC ks i h0 (by omega)
 refine zh (step := YI k0 k1) (fun k => (n, i, k, q, t, l, cs, vs, z, ks)) (jO (y0 ks i).2.2.2.1) _ _ zG (ks.take i.toNat) (by omega) ?_ ?_
 ·intro again k hk0 hk1
  rw [hlen] at hk1
  have hw : Go.IntKind.wrap .i64 (k + 1) = k + 1 := w64 (by omega) (by omega)
  have hk2 : k < (ks.length : Int) := by omega
  unfold YI jO
  rw [y8R zG ks i k hk0 hk1]
  have hx : ks.getD k.toNat zG = y0 ks k := rfl
  rw [hx]
  simp only [Bool.cond_eq_ite, decide_eq_true_eq, hk0, hk1, hk2, h0, h1, if_true, hw]
  cases ((y0 ks k).2.2.1 == 1) <;> cases ((y0 ks k).2.2.2.1 == (y0 ks i).2.2.2.1) <;> rfl
 ·intro again k hk
  rw [hlen] at hk
  unfold YI
  simp only [Bool.cond_eq_ite, decide_eq_true_eq, if_neg hk]
theorem y3O (q : List Int) (t : List y8) (l : List yq) (cs : List yb) (vs : List yD) (z : Int) (ht : TOk t) (hl : l.length ≤ 1048576) (hc : cs.length ≤ 1048576) : Jg (q, t, l, cs, vs, z) = some (qm (qN t) l cs) := by
 unfold Jg qw qm
 have hk := ht.keys
 have e : zT (q, t) = some (qN t) := qG q t (by have := ht.len; omega) ht.nodes ht.sum
 simp only [e, Option.bind_some]
 generalize qN t = ks at hk
 refine (y2T (step := ZE _ _) (fun (i n : Int) => (n, i, q, t, l, cs, vs, z, ks)) (yeT ks l cs) y5j (some false) (fun n => some (n == y8O cs)) zG ks (by omega) ?_ ?_ 0).trans ?_
 ·intro again i n h0 h1
  have hw : Go.IntKind.wrap .i64 (i + 1) = i + 1 := w64 (by omega) (by omega)
  unfold ZE yeT y5j
  have hin := fun (k0 : (Bool × Int × Int × List yx × List y8 × List yq × List yb × List yD × Int × List ya) → Option Bool) k1 m => y3N k0 k1 m i q t l cs vs z ks h0 h1 hk
  obtain ⟨⟨x1, x2, x3, x4, x5⟩, hx⟩ : ∃ x, y0 ks i = x := ⟨_, rfl⟩
  have hx' : ks.getD i.toNat zG = (x1, x2, x3, x4, x5) := hx
  rw [hx']
  rw [hx] at hin
  have e1 := qi l x2 (by omega)
  have e2 := y08 cs x4 x5 hc
  simp only [Bool.cond_eq_ite, decide_eq_true_eq, h0, h1, if_true, hw, hx, e1, e2, hin, Option.bind_some]
  by_cases ha : kJ l x2 < 0
  ·simp only [ha, if_true, decide_true, Bool.true_or]
  ·simp only [ha, if_false, decide_false, Bool.false_or]
   by_cases h3 : x3 = 1
   ·have g1 : (x3 == 1) = true := by simp [h3]
    have g2 : (x3 != 1) = false := by simp [h3]
    rw [g1, g2]
    cases (Vm cs x4 x5).2 <;> cases zR (jO x4) (ks.take i.toNat) 0 <;> rfl
   ·have g1 : (x3 == 1) = false := by simpa using h3
    have g2 : (x3 != 1) = true := by simpa using h3
    rw [g1, g2]
    rfl
 ·intro again i n hi
  unfold ZE
  simp only [Bool.cond_eq_ite, decide_eq_true_eq, if_neg hi, y8P cs hc, Option.bind_some]
 ·cases zR (yeT ks l cs) ks 0 <;> rfl
theorem ybD (c : Int) : ∀ (l : List ya) (i : Int) (j : Nat), j < l.length → zR (jO c) (l.take (j + 1)) i = (zR (jO c) (l.take j) i || jO c 0 (l.getD j zG))
 | a :: l, i, 0, _ => by simp [zR, jO]
 | a :: l, i, j + 1, h => by
  have := ybD c l (i + 1) j (by simpa using h)
  rw [List.take_succ_cons, zR, this, List.take_succ_cons, zR, List.getD_cons_succ, Bool.or_assoc]
def ycx (s : Int × List Bool) (a : ya) : Int × List Bool := (y5j s.1 a, if (a.2.2.1 == 1) = true then s.2.set a.2.2.2.1.toNat true else s.2)
theorem yii : ∀ (l : List ya) (s : Int × List Bool), (l.foldl ycx s).1 = l.foldl y5j s.1
 | [], _ => rfl
 | a :: l, s => yii l (ycx s a)
theorem y3P (q : List Int) (t : List y8) (l : List yq) (cs : List yb) (vs : List yD) (z : Int) (ht : TOk t) (hl : l.length ≤ 1048576) (hc : cs.length = 24) : Jo (q, t, l, cs, vs, z) = some (qm (qN t) l cs) := by
 unfold Jo qy qm
 have hk := ht.keys
 have e : YT (q, t) = some (qN t) := y2d q t (by have := ht.len; omega) ht.nodes ht.sum
 rw [if_pos (by omega), if_pos (Int.le_refl _), if_pos (by omega)]
 simp only [e, Option.bind_some]
 generalize qN t = ks at hk
 refine (y3H (step := ZJ _ _) (fun (i : Int) (s : Int × List Bool) => (s.1, (ks.length : Int), i, q, t, l, cs, vs, z, s.2, ks)) (fun i s a => if yeT ks l cs i a = true then .error (some false) else .ok (ycx s a)) (fun s => some (s.1 == y8O cs)) zG ks (by omega) (fun j s => s.2.length = 24 ∧ ∀ c : Nat, c < 24 → s.2.getD c false = zR (jO (c : Int)) (ks.take j) 0) ?_ ?_ 0 (Int.le_refl _) (0, List.replicate (Int.toNat 24) ydx) ⟨rfl, fun c hc => ?_⟩).trans ?_
 ·rintro again i ⟨n, tk⟩ h0 h1 ⟨hI1, hI2⟩
  simp only at hI1 hI2
  have hw : Go.IntKind.wrap .i64 (i + 1) = i + 1 := w64 (by omega) (by omega)
  obtain ⟨⟨x1, x2, x3, x4, x5⟩, hx⟩ : ∃ x, y0 ks i = x := ⟨_, rfl⟩
  have hx' : ks.getD i.toNat zG = (x1, x2, x3, x4, x5) := hx
  have hgd : ks.getD i.toNat zG = ks.getD i.toNat zG := rfl
  have e1 := qj l x2 (by omega)
  have e2 := y4t cs x4 x5 (by omega)
  have hcell : (Vm cs x4 x5).2 = true → 0 ≤ x4 ∧ x4 < 24 := fun h => by
   unfold Vm at h
   split at h
   ·rename_i hh
    simp only [Bool.and_eq_true] at hh
    have := Zd.1 hh.1
    omega
   ·cases h
  rw [hx']
  refine ⟨?_, fun s' hs' => ?_⟩
  ·unfold ZJ yeT ycx y5j
   simp only [Bool.cond_eq_ite, decide_eq_true_eq, h0, h1, if_true, hw, hx, e1, e2, Option.bind_some]
   by_cases ha : kJ l x2 < 0
   ·simp only [ha, if_true, decide_true, Bool.true_or]
   ·simp only [ha, if_false, decide_false, Bool.false_or]
    by_cases h3 : x3 = 1
    ·have g1 : (x3 == 1) = true := by simp [h3]
     have g2 : (x3 != 1) = false := by simp [h3]
     rw [g1, g2]
     cases hok : (Vm cs x4 x5).2 with
     | false => rfl
     | true =>
      obtain ⟨b0, b1⟩ := hcell hok
      have b2 : x4 < (tk.length : Int) := by omega
      have hrd : ydy tk x4 = zR (jO x4) (ks.take i.toNat) 0 := by
       have := hI2 x4.toNat (by omega)
       rw [show ((x4.toNat : Nat) : Int) = x4 by omega] at this
       exact this
      simp only [b0, b2, if_true, hrd]
      cases zR (jO x4) (ks.take i.toNat) 0 <;> rfl
    ·have g1 : (x3 == 1) = false := by simpa using h3
     have g2 : (x3 != 1) = true := by simpa using h3
     rw [g1, g2]
     rfl
  ·by_cases hb : yeT ks l cs i (x1, x2, x3, x4, x5) = true
   ·rw [if_pos hb] at hs'
    cases hs'
   ·rw [if_neg hb] at hs'
    injection hs' with hs'
    subst hs'
    have hsucc : ∀ c : Int, zR (jO c) (ks.take (i.toNat + 1)) 0 = (zR (jO c) (ks.take i.toNat) 0 || jO c 0 (x1, x2, x3, x4, x5)) := fun c => by
     rw [ybD c ks 0 i.toNat (by omega), hx']
    unfold ycx
    simp only
    by_cases h3 : x3 = 1
    ·have g1 : (x3 == 1) = true := by simp [h3]
     simp only [g1, if_true]
     have hok : (Vm cs x4 x5).2 = true := by
      unfold yeT at hb
      simp only [g1] at hb
      cases hh : (Vm cs x4 x5).2 with
      | true => rfl
      | false =>
       rw [hh] at hb
       simp at hb
     obtain ⟨b0, b1⟩ := hcell hok
     refine ⟨by simpa using hI1, fun c hc => ?_⟩
     rw [hsucc, ← hI2 c hc]
     unfold jO
     simp only [g1, Bool.true_and]
     rw [List.getD_eq_getElem?_getD, List.getD_eq_getElem?_getD]
     by_cases hcx : c = x4.toNat
     ·rw [← hcx, List.getElem?_set_self (by omega)]
      have : (x4 == (c : Int)) = true := by
       simp only [beq_iff_eq]
       omega
      rw [this]
      simp
     ·rw [List.getElem?_set_ne (fun h => hcx h.symm)]
      have : (x4 == (c : Int)) = false := by
       simp only [beq_eq_false_iff_ne, ne_eq]
       omega
      rw [this]
      simp
    ·have g1 : (x3 == 1) = false := by simpa using h3
     simp only [g1, Bool.false_eq_true, if_false]
     refine ⟨hI1, fun c hc => ?_⟩
     rw [hsucc, ← hI2 c hc]
     unfold jO
     simp only [g1, Bool.false_and, Bool.or_false]
 ·rintro again i ⟨n, tk⟩ hi
  unfold ZJ
  simp only [Bool.cond_eq_ite, decide_eq_true_eq, if_neg hi, y8Q cs (by omega), Option.bind_some]
  rw [Bool.beq_comm]
 ·show (List.replicate 24 false).getD c false = _
  rw [List.getD_eq_getElem?_getD, List.getElem?_replicate]
  simp [zR, hc]
 ·have := y2S (yeT ks l cs) ycx (some false) (fun s : Int × List Bool => some (s.1 == y8O cs)) ks 0 (0, List.replicate (Int.toNat 24) ydx)
  rw [show (0 : Int).toNat = 0 from rfl, List.drop_zero, this, yii]
  cases zR (yeT ks l cs) ks 0 <;> rfl
def y0r (z : Int) (_ : Int) (a : yq) : Bool := decide (a.1 ≥ z)
def jP (q : List Int) (t : List y8) (l : List yq) (cs : List yb) (vs : List yD) (z : Int) : Bool :=
 vG q t && (Vl l && (Wf cs && (inR z 1 61 && (!zR (y0r z) l 0 && (Vo vs l && qm (qN t) l cs)))))
theorem y09 (q : List Int) (t : List y8) (l : List yq) (cs : List yb) (vs : List yD) (z : Int) (ht : TOk t) (hl : l.length ≤ 1048576) (hc : cs.length ≤ 1048576) (hv : vs.length ≤ 1048576) (hvn : ∀ v ∈ vs, ByteArray.size v.1 ≤ maxLen) : jU (q, t, l, cs, vs, z) = some (jP q t l cs vs z) := by
 unfold jU Q6 jP
 refine (zh (step := jo _ _) (fun i => (i, q, t, l, cs, vs, z)) (y0r z) (some false) (some (vG q t && (Vl l && (Wf cs && (inR z 1 61 && (Vo vs l && qm (qN t) l cs)))))) kC l (by omega) ?_ ?_).trans ?_
 ·intro again i h0 h1
  have hw : Go.IntKind.wrap .i64 (i + 1) = i + 1 := w64 (by omega) (by omega)
  unfold jo y0r
  have hx : l.getD i.toNat kC = z8 l i := rfl
  rw [hx]
  simp only [Bool.cond_eq_ite, decide_eq_true_eq, h0, h1, if_true, hw]
 ·intro again i hi
  unfold jo
  simp only [Bool.cond_eq_ite, decide_eq_true_eq, if_neg hi, y4l q t ht, y4p l hl, y3J cs hc, Zf, y8S q t l cs vs z hl hv hvn, y3O q t l cs vs z ht hl hc, Option.bind_some]
  cases vG q t <;> cases Vl l <;> cases Wf cs <;> cases inR z 1 61 <;> cases Vo vs l <;> rfl
 ·cases zR (y0r z) l 0 <;> cases vG q t <;> cases Vl l <;> cases Wf cs <;> cases inR z 1 61 <;> rfl
theorem y0a (q : List Int) (t : List y8) (l : List yq) (cs : List yb) (vs : List yD) (z : Int) (ht : TOk t) (hl : l.length ≤ 1048576) (hc : cs.length ≤ 1048576) (hv : vs.length ≤ 1048576) (hvn : ∀ v ∈ vs, ByteArray.size v.1 ≤ maxLen) : jW (q, t, l, cs, vs, z) = some (jP q t l cs vs z) := by
 unfold jW jP
 simp only [y4m q t ht, y4q l hl, y3K cs hc, zJ, Option.bind_some]
 cases vG q t
 ·rfl
 cases Vl l
 ·rfl
 cases hcc : Wf cs
 ·rfl
 cases inR z 1 61
 ·rfl
 have hc24 : cs.length = 24 := by
  unfold Wf at hcc
  simp only [Bool.and_eq_true, beq_iff_eq] at hcc
  omega
 simp only [Bool.not_true, cond_false, Option.bind_some, Bool.true_and]
 unfold Qk
 refine (zh (step := jA _ _) (fun i => (l, (l.length : Int), i, q, t, l, cs, vs, z)) (y0r z) (some false) (some (Vo vs l && qm (qN t) l cs)) kC l (by omega) ?_ ?_).trans ?_
 ·intro again i h0 h1
  have hw : Go.IntKind.wrap .i64 (i + 1) = i + 1 := w64 (by omega) (by omega)
  unfold jA y0r
  have hx : l.getD i.toNat kC = z8 l i := rfl
  rw [hx]
  simp only [Bool.cond_eq_ite, decide_eq_true_eq, h0, h1, if_true, hw]
 ·intro again i hi
  unfold jA
  simp only [Bool.cond_eq_ite, decide_eq_true_eq, if_neg hi, y8T q t l cs vs z hl hv hvn, y3P q t l cs vs z ht hl hc24, Option.bind_some]
  cases Vo vs l <;> rfl
 ·cases zR (y0r z) l 0 <;> rfl
end Go.Proofs.YtmapoakbdgpamaaGreat.Pl
