/- Base, Loops, Keys, Pool, Tree, Seen, Rng, Walk, See, Oks, Whole, Trees, Names, PoolOk, PoolOk2, PoolOk3, PutPool0, SetSrt, Join, CopyPool, Next, NodePut, JoinT, TreePut, CutAge, Calm, Prune. No condition. -/
import Derived.Test.YthgdjjdigalckaaGreatDB1
import Derived.Laws.BitsLemmas
set_option linter.all false
namespace Go.Proofs.YthgdjjdigalckaaGreat.Pl
open Go.Proofs.YthgdjjdigalckaaGreat.R Go.Proofs.YthgdjjdigalckaaGreat.XB
theorem ylW {T R : Type} {step : (T → Option R) → T → Option R} (μ : T → Nat) (inv : T → Prop) (G : T → Option R)
  (h : ∀ again t, inv t → (∀ t', inv t' → μ t' < μ t → again t' = G t') → step again t = G t) : ∀ (n : Nat) (t : T), inv t → μ t < n → zI step n t = G t := by
 intro n
 induction n with
 | zero => intro t _ hn; omega
 | succ n ih =>
  intro t ht hn
  rw [zI]
  exact h _ t ht fun t' ht' hlt => ih t' ht' (by omega)
theorem YH {T R : Type} {step : (T → Option R) → T → Option R} (μ : T → Nat) (inv : T → Prop) (G : T → Option R)
  (h : ∀ again t, inv t → (∀ t', inv t' → μ t' < μ t → again t' = G t') → step again t = G t) (t : T) (ht : inv t) (hn : μ t < 18446744073709551616) : zI step Y0 t = G t :=
 ylW μ inv G h Y0 t ht (by rw [y1e]; exact hn)
theorem w64 {n : Int} (h0 : -9223372036854775808 ≤ n) (h1 : n ≤ 9223372036854775807) : Go.IntKind.wrap .i64 n = n := by
 rw [IntKind.wrap_i64]
 omega
def inR (x a b : Int) : Bool := decide (a ≤ x) && decide (x ≤ b)
theorem Z6 {x a b : Int} : inR x a b = true ↔ a ≤ x ∧ x ≤ b := by simp [inR]
theorem ycM (n : Nat) (h : n < 9223372036854775808) : IntKind.i64.wrap (n : Int) = n := by
 rw [IntKind.wrap_i64]
 omega
theorem yaC (x : Int) : ((BitVec.ofInt 64 x).toNat : Int) = x % 18446744073709551616 := by
 rw [BitVec.toNat_ofInt]
 omega
theorem ygI (x : Int) (m : Nat) (j : Nat) (hj : j < 63) (hm : m = 2 ^ j - 1) : bits .and .i64 x m = x % (2 ^ j : Nat) := by
 have hd : (2 ^ j : Nat) ∣ 18446744073709551616 := by
  have : (18446744073709551616 : Nat) = 2 ^ j * 2 ^ (64 - j) := by rw [← Nat.pow_add, show j + (64 - j) = 64 by omega]
  rw [this]
  exact Nat.dvd_mul_right _ _
 have hlt : m < 18446744073709551616 := by
  have : 2 ^ j ≤ 2 ^ 64 := Nat.pow_le_pow_right (by omega) (by omega)
  have h1 : 0 < 2 ^ j := Nat.two_pow_pos j
  omega
 have hj63 : 2 ^ j < 9223372036854775808 := by
  have : 2 ^ j ≤ 2 ^ 62 := Nat.pow_le_pow_right (by omega) (by omega)
  omega
 show IntKind.i64.wrap ((BitVec.ofInt 64 x &&& BitVec.ofInt 64 (m : Int)).toNat : Int) = _
 rw [BitVec.toNat_and, BitVec.ofInt_natCast, BitVec.toNat_ofNat, Nat.mod_eq_of_lt hlt, hm, Nat.and_two_pow_sub_one_eq_mod]
 have h2 := Nat.mod_lt (BitVec.ofInt 64 x).toNat (Nat.two_pow_pos j)
 rw [ycM _ (by omega), Int.natCast_emod, yaC]
 exact Int.emod_emod_of_dvd _ (Int.ofNat_dvd.2 hd)
theorem ytI (x : Int) : bits .and .i64 x 255 = x % 256 := ygI x 255 8 (by omega) (by decide)
def by_ (l : List Int) (i : Int) : Int := l.getD i.toNat 0
end Go.Proofs.YthgdjjdigalckaaGreat.Pl
namespace Go.Proofs.YthgdjjdigalckaaGreat.Pl
open Go.Proofs.YthgdjjdigalckaaGreat.R Go.Proofs.YthgdjjdigalckaaGreat.XB
theorem YI {T R : Type} {step : (T → Option R) → T → Option R} (μ : T → Nat) (inv : T → Prop) (Q : T → Option R → Prop)
  (h : ∀ again t, inv t → (∀ t', inv t' → μ t' < μ t → Q t' (again t')) → Q t (step again t)) (t : T) (ht : inv t) (hn : μ t < 18446744073709551616) : Q t (zI step Y0 t) := by
 have key : ∀ (n : Nat) (t : T), inv t → μ t < n → Q t (zI step n t) := by
  intro n
  induction n with
  | zero => intro t _ hn; omega
  | succ n ih =>
   intro t ht hn
   rw [zI]
   exact h _ t ht fun t' ht' hlt => ih t' ht' (by omega)
 exact key Y0 t ht (by rw [y1e]; exact hn)
theorem y7V {A : Type} (da : A) (l : List A) (i : Int) (h0 : 0 ≤ i) (h : i < l.length) : l.getD i.toNat da = l[i.toNat]'(by omega) := by
 rw [List.getD_eq_getElem?_getD, List.getElem?_eq_getElem (by omega)]
 rfl
theorem yZ {A : Type} (da : A) (l : List A) (i : Int) (h0 : 0 ≤ i) (h : i < l.length) : l.getD i.toNat da ∈ l := by
 rw [y7V da l i h0 h]
 exact List.getElem_mem _
theorem wO {A : Type} (da : A) (l : List A) (i : Int) (h0 : 0 ≤ i) (h : i < l.length) : l.drop i.toNat = l.getD i.toNat da :: l.drop (i + 1).toNat := by
 rw [y7V da l i h0 h, show (i + 1).toNat = i.toNat + 1 by omega, ← List.drop_eq_getElem_cons]
def Wg {A : Type} (w : A → Int) (l : List A) : Int := l.foldr (fun a s => w a + s) 0
theorem Yb {A : Type} (w : A → Int) (a : A) (l : List A) : Wg w (a :: l) = w a + Wg w l := rfl
theorem y0z {A : Type} {w : A → Int} (hw : ∀ a, 0 ≤ w a) : ∀ {l : List A} {a : A}, a ∈ l → w a ≤ Wg w l ∧ 0 ≤ Wg w l
 | b :: l, a, h => by
  have hs : 0 ≤ Wg w l := by
   clear h
   induction l with
   | nil => exact Int.le_refl _
   | cons c l ih => rw [Yb]; have := hw c; omega
  rw [Yb]
  have := hw b
  rcases List.mem_cons.1 h with rfl | h
  ·omega
  ·have := (y0z hw h).1
   omega
theorem W4 {A : Type} {w : A → Int} (hw : ∀ a, 0 ≤ w a) (l : List A) : 0 ≤ Wg w l := by
 induction l with
 | nil => exact Int.le_refl _
 | cons c l ih => rw [Yb]; have := hw c; omega
end Go.Proofs.YthgdjjdigalckaaGreat.Pl
namespace Go.Proofs.YthgdjjdigalckaaGreat.Pl
open Go.Proofs.YthgdjjdigalckaaGreat.R Go.Proofs.YthgdjjdigalckaaGreat.XB
theorem Y5 {T A S R : Type} {step : (T → Option R) → T → Option R} (mk : Int → S → T) (k : S → Option R) (da : A) (g : S → A → S) (l : List A) (hl : l.length ≤ 1099511627776) (I : Nat → S → Prop)
  (h : ∀ again i s, 0 ≤ i → i < (l.length : Int) → I i.toNat s → step again (mk i s) = again (mk (i + 1) (g s (l.getD i.toNat da))) ∧ I (i.toNat + 1) (g s (l.getD i.toNat da)))
  (hd : ∀ again i s, ¬ i < (l.length : Int) → step again (mk i s) = k s) (s : S) (hs : I 0 s) : zI step Y0 (mk 0 s) = k (l.foldl g s) := by
 have key : ∀ (n : Nat) (i : Int) (s : S), 0 ≤ i → i ≤ l.length → I i.toNat s → l.length - i.toNat < n → zI step n (mk i s) = k ((l.drop i.toNat).foldl g s) := by
  intro n
  induction n with
  | zero => intro i s _ _ _ hn; omega
  | succ n ih =>
   intro i s h0 h1 hI hn
   rw [zI]
   by_cases hi : i < (l.length : Int)
   ·obtain ⟨e, hI'⟩ := h (zI step n) i s h0 hi hI
    have e1 : (i + 1).toNat = i.toNat + 1 := by omega
    rw [e, ih (i + 1) _ (by omega) (by omega) (by rw [e1]; exact hI') (by omega), wO da l i h0 hi]
    rfl
   ·rw [hd _ i s hi, List.drop_of_length_le (by omega)]
    rfl
 have := key Y0 0 s (by omega) (by omega) hs (by rw [y1e]; simp; omega)
 simpa using this
def qV (c k : y9) : Bool := if c.1 < k.1 then true else if c.1 = k.1 then decide (c.2.1 < k.2.1) else false
def qW (c k : y9) : Bool := decide (c.1 = k.1) && decide (c.2.1 = k.2.1)
theorem y0f (a1 a2 a3 a4 a5 b1 b2 b3 b4 b5 : Int) : J2 (a1, a2, a3, a4, a5, b1, b2, b3, b4, b5) = some (qV (a1, a2, a3, a4, a5) (b1, b2, b3, b4, b5)) := by
 unfold J2 qV
 by_cases h : a1 = b1
 ·subst h
  simp
 ·have hb : (a1 == b1) = false := by simpa using h
  have hb' : (a1 != b1) = true := by simpa using h
  by_cases h2 : a1 < b1 <;> simp [h, h2, hb, hb']
theorem y0g (a1 a2 a3 a4 a5 b1 b2 b3 b4 b5 : Int) : jZ (a1, a2, a3, a4, a5, b1, b2, b3, b4, b5) = some (qV (a1, a2, a3, a4, a5) (b1, b2, b3, b4, b5)) := by
 unfold jZ qV
 by_cases h : a1 = b1
 ·subst h
  simp
 ·have hb : (a1 == b1) = false := by simpa using h
  have hb' : (a1 != b1) = true := by simpa using h
  by_cases h2 : a1 < b1 <;> simp [h, h2, hb, hb']
theorem y2Y (a1 a2 a3 a4 a5 b1 b2 b3 b4 b5 : Int) : ZX (a1, a2, a3, a4, a5, b1, b2, b3, b4, b5) = some (qW (a1, a2, a3, a4, a5) (b1, b2, b3, b4, b5)) := by
 unfold ZX qW
 have e1 : (a1 == b1) = decide (a1 = b1) := rfl
 have e2 : (a2 == b2) = decide (a2 = b2) := rfl
 simp only [e1, e2]
 cases decide (a1 = b1) <;> cases decide (a2 = b2) <;> rfl
theorem y2Z (a1 a2 a3 a4 a5 b1 b2 b3 b4 b5 : Int) : ZP (a1, a2, a3, a4, a5, b1, b2, b3, b4, b5) = some (qW (a1, a2, a3, a4, a5) (b1, b2, b3, b4, b5)) := by
 unfold ZP qW
 have e1 : (a1 == b1) = decide (a1 = b1) := rfl
 have e2 : (a2 == b2) = decide (a2 = b2) := rfl
 simp only [e1, e2]
 cases decide (a1 = b1) <;> cases decide (a2 = b2) <;> rfl
theorem yun {n k : Nat} (h : n ≤ 1073741825) (hk : (1073741825 + k) * 40 < 140737488355328) : (n + k) * 40 < 140737488355328 := by omega
def J9 (k : y9) (s : Bool × List y9) (c : y9) : Bool × List y9 :=
 if s.1 = false ∧ qV c k = false then (true, if qW c k then s.2 ++ [k] else s.2 ++ [k] ++ [c]) else (s.1, if qW c k then s.2 else s.2 ++ [c])
def wl (l : List y9) (k : y9) : List y9 :=
 let r := l.foldl (J9 k) (false, [])
 if r.1 then r.2 else r.2 ++ [k]
def pN (p : Bool) : Nat := if p then 1 else 0
theorem y4j (k : y9) (s : Bool × List y9) (c : y9) : (J9 k s c).2.length + pN s.1 ≤ s.2.length + 1 + pN (J9 k s c).1 ∧ pN (J9 k s c).1 ≤ 1 := by
 unfold J9 pN
 obtain ⟨p, o⟩ := s
 cases p <;> cases qV c k <;> cases qW c k <;> simp
theorem y0A (k : y9) : ∀ (l : List y9) (s : Bool × List y9), (l.foldl (J9 k) s).2.length + pN s.1 ≤ s.2.length + l.length + pN (l.foldl (J9 k) s).1
 | [], s => by simp
 | c :: l, s => by
  have h1 := (y4j k s c).1
  have h2 := y0A k l (J9 k s c)
  simp only [List.foldl_cons, List.length_cons] at h2 ⊢
  omega
theorem wh (l : List y9) (k : y9) : (wl l k).length ≤ l.length + 1 := by
 have h := y0A k l (false, [])
 unfold wl
 simp only [pN, List.length_nil, Bool.false_eq_true, if_false] at h ⊢
 cases hr : (l.foldl (J9 k) (false, [])).1 with
 | true =>
  rw [hr] at h
  simp at h ⊢
  omega
 | false =>
  rw [hr] at h
  simp at h ⊢
  omega
theorem y30 {R : Type} (k0 : Bool × Int × Int × Int × Int × Int × List y9 → Option R) (again : WH → Option R) (l : List y9) (i : Int) (p : Bool) (a b c d e : Int) (o : List y9) (hl : l.length ≤ 1073741824) (h0 : 0 ≤ i) (h1 : i < (l.length : Int)) (ho : o.length ≤ 1073741825) :
  YX k0 again (l, p, i, a, b, c, d, e, o) = again (l, (J9 (a, b, c, d, e) (p, o) (l.getD i.toNat zb)).1, i + 1, a, b, c, d, e, (J9 (a, b, c, d, e) (p, o) (l.getD i.toNat zb)).2) := by
 have hw : Go.IntKind.wrap .i64 (i + 1) = i + 1 := w64 (by omega) (by omega)
 have c1 : (o.length + (0 + 1)) * 40 < 140737488355328 := yun ho (by decide)
 have c2 : (o.length + (0 + 1) + (0 + 1)) * 40 < 140737488355328 := by rw [Nat.add_assoc]; exact yun ho (by decide)
 obtain ⟨⟨x1, x2, x3, x4, x5⟩, hx⟩ : ∃ x, y6 l i = x := ⟨_, rfl⟩
 have hx' : l.getD i.toNat zb = (x1, x2, x3, x4, x5) := hx
 rw [hx']
 unfold YX
 simp only [Bool.cond_eq_ite, decide_eq_true_eq, h0, h1, if_true, hw, hx, y0f, y2Y, Option.bind_some, List.length_append, List.length_cons, List.length_nil]
 unfold J9
 generalize qV (x1, x2, x3, x4, x5) (a, b, c, d, e) = q1
 generalize qW (x1, x2, x3, x4, x5) (a, b, c, d, e) = q2
 simp only [c1, c2, if_true]
 cases p <;> cases q1 <;> cases q2 <;> rfl
theorem y31 {R : Type} (k0 : Bool × Int × Int × Int × Int × Int × List y9 → Option R) (l : List y9) (a b c d e : Int) (hl : l.length ≤ 1073741824) :
  vR k0 (l, false, 0, a, b, c, d, e, []) = k0 ((l.foldl (J9 (a, b, c, d, e)) (false, [])).1, a, b, c, d, e, (l.foldl (J9 (a, b, c, d, e)) (false, [])).2) := by
 unfold vR
 refine Y5 (step := YX k0) (fun (i : Int) (s : Bool × List y9) => (l, s.1, i, a, b, c, d, e, s.2)) (fun s => k0 (s.1, a, b, c, d, e, s.2)) zb (J9 (a, b, c, d, e)) l (by omega) (fun i s => s.2.length ≤ i + pN s.1) ?_ ?_ (false, []) (by simp)
 ·rintro again i ⟨p, o⟩ h0 h1 hI
  have hp : pN p ≤ 1 := by cases p <;> decide
  have hI' : o.length ≤ i.toNat + pN p := hI
  clear hI
  refine ⟨y30 k0 again l i p a b c d e o hl h0 h1 (by omega), ?_⟩
  have ho := (y4j (a, b, c, d, e) (p, o) (l.getD i.toNat zb)).1
  show (J9 (a, b, c, d, e) (p, o) (l.getD i.toNat zb)).2.length ≤ i.toNat + 1 + pN (J9 (a, b, c, d, e) (p, o) (l.getD i.toNat zb)).1
  generalize (J9 (a, b, c, d, e) (p, o) (l.getD i.toNat zb)) = r at ho ⊢
  simp only at ho
  omega
 ·rintro again i ⟨p, o⟩ hi
  show YX k0 again (l, p, i, a, b, c, d, e, o) = _
  unfold YX
  simp only [Bool.cond_eq_ite, decide_eq_true_eq, if_neg hi]
theorem wP (l : List y9) (a b c d e : Int) (hl : l.length ≤ 1073741824) : zq (l, a, b, c, d, e) = some (wl l (a, b, c, d, e)) := by
 have hlen := y0A (a, b, c, d, e) l (false, [])
 unfold zq wl
 rw [y31 _ l a b c d e hl]
 generalize l.foldl (J9 (a, b, c, d, e)) (false, []) = r at hlen ⊢
 obtain ⟨q, o⟩ := r
 cases q with
 | true => rfl
 | false =>
  simp only [pN, List.length_nil, Bool.false_eq_true, if_false] at hlen
  simp only [Bool.not_false, cond_true, List.length_cons, List.length_nil, Bool.false_eq_true, if_false]
  rw [if_pos (by omega)]
theorem y32 {R : Type} (k0 : Bool × Int × Int × Int × Int × Int × List y9 → Option R) (again : Wq → Option R) (l : List y9) (i : Int) (p : Bool) (a b c d e : Int) (o : List y9) (hl : l.length ≤ 1073741824) (h0 : 0 ≤ i) (h1 : i < (l.length : Int)) (ho : o.length ≤ 1073741825) :
  YU k0 again (p, l, (l.length : Int), i, a, b, c, d, e, o) = again ((J9 (a, b, c, d, e) (p, o) (l.getD i.toNat zb)).1, l, (l.length : Int), i + 1, a, b, c, d, e, (J9 (a, b, c, d, e) (p, o) (l.getD i.toNat zb)).2) := by
 have hw : Go.IntKind.wrap .i64 (i + 1) = i + 1 := w64 (by omega) (by omega)
 have c1 : (o.length + (0 + 1)) * 40 < 140737488355328 := yun ho (by decide)
 have c2 : (o.length + (0 + 1) + (0 + 1)) * 40 < 140737488355328 := by rw [Nat.add_assoc]; exact yun ho (by decide)
 obtain ⟨⟨x1, x2, x3, x4, x5⟩, hx⟩ : ∃ x, y6 l i = x := ⟨_, rfl⟩
 have hx' : l.getD i.toNat zb = (x1, x2, x3, x4, x5) := hx
 rw [hx']
 unfold YU
 simp only [Bool.cond_eq_ite, decide_eq_true_eq, h0, h1, if_true, hw, hx, y0g, y2Z, Option.bind_some, List.length_append, List.length_cons, List.length_nil]
 unfold J9
 generalize qV (x1, x2, x3, x4, x5) (a, b, c, d, e) = q1
 generalize qW (x1, x2, x3, x4, x5) (a, b, c, d, e) = q2
 simp only [c1, c2, if_true]
 cases p <;> cases q1 <;> cases q2 <;> rfl
theorem y33 {R : Type} (k0 : Bool × Int × Int × Int × Int × Int × List y9 → Option R) (l : List y9) (a b c d e : Int) (hl : l.length ≤ 1073741824) :
  vv k0 (false, l, (l.length : Int), 0, a, b, c, d, e, []) = k0 ((l.foldl (J9 (a, b, c, d, e)) (false, [])).1, a, b, c, d, e, (l.foldl (J9 (a, b, c, d, e)) (false, [])).2) := by
 unfold vv
 refine Y5 (step := YU k0) (fun (i : Int) (s : Bool × List y9) => (s.1, l, (l.length : Int), i, a, b, c, d, e, s.2)) (fun s => k0 (s.1, a, b, c, d, e, s.2)) zb (J9 (a, b, c, d, e)) l (by omega) (fun i s => s.2.length ≤ i + pN s.1) ?_ ?_ (false, []) (by simp)
 ·rintro again i ⟨p, o⟩ h0 h1 hI
  have hp : pN p ≤ 1 := by cases p <;> decide
  have hI' : o.length ≤ i.toNat + pN p := hI
  clear hI
  refine ⟨y32 k0 again l i p a b c d e o hl h0 h1 (by omega), ?_⟩
  have ho := (y4j (a, b, c, d, e) (p, o) (l.getD i.toNat zb)).1
  show (J9 (a, b, c, d, e) (p, o) (l.getD i.toNat zb)).2.length ≤ i.toNat + 1 + pN (J9 (a, b, c, d, e) (p, o) (l.getD i.toNat zb)).1
  generalize (J9 (a, b, c, d, e) (p, o) (l.getD i.toNat zb)) = r at ho ⊢
  simp only at ho
  omega
 ·rintro again i ⟨p, o⟩ hi
  show YU k0 again (p, l, (l.length : Int), i, a, b, c, d, e, o) = _
  unfold YU
  simp only [Bool.cond_eq_ite, decide_eq_true_eq, if_neg hi]
theorem VQ (l : List y9) (a b c d e : Int) (hl : l.length ≤ 1073741824) : jo (l, a, b, c, d, e) = some (wl l (a, b, c, d, e)) := by
 have hlen := y0A (a, b, c, d, e) l (false, [])
 unfold jo wl
 rw [y33 _ l a b c d e hl]
 generalize l.foldl (J9 (a, b, c, d, e)) (false, []) = r at hlen ⊢
 obtain ⟨q, o⟩ := r
 cases q with
 | true => rfl
 | false =>
  simp only [pN, List.length_nil, Bool.false_eq_true, if_false] at hlen
  simp only [Bool.not_false, cond_true, List.length_cons, List.length_nil, Bool.false_eq_true, if_false]
  rw [if_pos (by omega)]
end Go.Proofs.YthgdjjdigalckaaGreat.Pl
namespace Go.Proofs.YthgdjjdigalckaaGreat.Pl
open Go.Proofs.YthgdjjdigalckaaGreat.R Go.Proofs.YthgdjjdigalckaaGreat.XB
def Qr (l : List yb) : Int := (List.length l : Int) + Wg (fun a : yb => (List.length a : Int)) l
theorem KJ (l : List yb) : 0 ≤ Qr l := by
 have := W4 (w := fun a : yb => (List.length a : Int)) (fun a => Int.natCast_nonneg _) l
 unfold Qr
 omega
end Go.Proofs.YthgdjjdigalckaaGreat.Pl
namespace Go.Proofs.YthgdjjdigalckaaGreat.Pl
open Go.Proofs.YthgdjjdigalckaaGreat.R Go.Proofs.YthgdjjdigalckaaGreat.XB
def Wh (a b : List y9) : List y9 := b.foldl wl a
theorem y0B : ∀ (b a : List y9), (Wh a b).length ≤ a.length + b.length
 | [], a => by simp [Wh]
 | c :: b, a => by
  have h := y0B b (wl a c)
  have h2 := wh a c
  unfold Wh at h ⊢
  simp only [List.foldl_cons, List.length_cons] at h ⊢
  omega
def Vf (s : List y9) (c : y9) : List y9 := if c.2.2.1 = 0 then s else s ++ [c]
def y4k (l : List y9) : List y9 := l.foldl Vf []
theorem y1j (s : List y9) (c : y9) : (Vf s c).length ≤ s.length + 1 := by
 unfold Vf
 split <;> simp
theorem y4l : ∀ (l s : List y9), (l.foldl Vf s).length ≤ s.length + l.length
 | [], s => by simp
 | c :: l, s => by
  have h := y4l l (Vf s c)
  have h2 := y1j s c
  simp only [List.foldl_cons, List.length_cons]
  omega
def Vo (a : yb) : Int := (List.length a : Int)
theorem Kf (a : yb) : 0 ≤ Vo a := Int.natCast_nonneg _
def z3 (n : List yb) : List y9 := y4k (n.foldl Wh [])
theorem y1Q : ∀ (n : List yb) (s : List y9), ((n.foldl Wh s).length : Int) ≤ s.length + Wg Vo n
 | [], s => by simp [Wg]
 | c :: n, s => by
  have h := y1Q n (Wh s c)
  have h2 := y0B c s
  simp only [List.foldl_cons, Yb, Vo]
  omega
theorem Vg (n : List yb) : ((z3 n).length : Int) ≤ Wg Vo n := by
 have h := y4l (n.foldl Wh []) []
 have h2 := y1Q n []
 unfold z3 y4k
 simp only [List.length_nil] at h h2
 omega
theorem y1R (n : List yb) : Wg Vo n ≤ Qr n := by
 show Wg (fun a : yb => (List.length a : Int)) n ≤ (List.length n : Int) + Wg (fun a : yb => (List.length a : Int)) n
 omega
def KW (s : List y9) (n : y0) : List y9 := s ++ z3 n
def zF (t : List y0) : List y9 := t.foldl KW []
theorem y2n (a b : List y9) (h : a.length + b.length ≤ 1073741824) : Z9 (a, b) = some (Wh a b) := by
 unfold Z9 VB
 simp only [List.length_nil, Nat.zero_add, List.nil_append]
 rw [if_pos (by omega)]
 refine Y5 (step := Zo _) (fun (i : Int) (s : List y9) => (b, i, s)) (fun s => some s) zb wl b (by omega) (fun i s => s.length ≤ a.length + i) ?_ ?_ a (by simp)
 ·intro again i s h0 h1 hI
  have hw : Go.IntKind.wrap .i64 (i + 1) = i + 1 := w64 (by omega) (by omega)
  have hs := wh s (b.getD i.toNat zb)
  have e := wP s (y6 b i).1 (y6 b i).2.1 (y6 b i).2.2.1 (y6 b i).2.2.2.1 (y6 b i).2.2.2.2 (by omega)
  refine ⟨?_, by omega⟩
  unfold Zo
  simp only [Bool.cond_eq_ite, decide_eq_true_eq, h0, h1, if_true, hw, e, Option.bind_some]
  rfl
 ·intro again i s hi
  unfold Zo
  simp only [Bool.cond_eq_ite, decide_eq_true_eq, if_neg hi]
theorem y0h (l : List y9) (h : l.length ≤ 1073741824) : Y4 l = some (y4k l) := by
 unfold Y4 y1O
 refine Y5 (step := WG _) (fun (i : Int) (s : List y9) => (l, i, s)) (fun s => some s) zb Vf l (by omega) (fun i s => s.length ≤ i) ?_ ?_ [] (by simp)
 ·intro again i s h0 h1 hI
  have hw : Go.IntKind.wrap .i64 (i + 1) = i + 1 := w64 (by omega) (by omega)
  have hs := y1j s (l.getD i.toNat zb)
  refine ⟨?_, by omega⟩
  have c1 : (s.length + 1) * 40 < 140737488355328 := by omega
  clear hs
  unfold WG Vf
  obtain ⟨⟨x1, x2, x3, x4, x5⟩, hx⟩ : ∃ x, y6 l i = x := ⟨_, rfl⟩
  have hx' : l.getD i.toNat zb = (x1, x2, x3, x4, x5) := hx
  rw [hx']
  simp only [Bool.cond_eq_ite, decide_eq_true_eq, h0, h1, if_true, hw, hx, List.length_cons, List.length_nil, Nat.zero_add, c1]
  by_cases h3 : x3 = 0
  ·rw [if_neg (by simpa using h3), if_pos h3]
  ·rw [if_pos (by simpa using h3), if_neg h3]
 ·intro again i s hi
  unfold WG
  simp only [Bool.cond_eq_ite, decide_eq_true_eq, if_neg hi]
theorem Zc (n : List yb) (hn : n.length ≤ 1073741824) (h : Wg Vo n ≤ 1048576) : yA n = some (z3 n) := by
 have hlen := y1Q n []
 simp only [List.length_nil] at hlen
 have hD := y0h (n.foldl Wh []) (by omega)
 unfold yA qw
 refine (Y5 (step := ZY _) (fun (i : Int) (s : List y9) => (i, n, s)) (fun s => Option.bind (Y4 s) fun r3 => some r3) yV Wh n (by omega) (fun i s => (s.length : Int) + Wg Vo (n.drop i) ≤ Wg Vo n) ?_ ?_ [] (by simp)).trans ?_
 ·intro again i s h0 h1 hI
  have hw : Go.IntKind.wrap .i64 (i + 1) = i + 1 := w64 (by omega) (by omega)
  rw [wO yV n i h0 h1, Yb, show (i + 1).toNat = i.toNat + 1 by omega] at hI
  have hnn := W4 Kf (n.drop (i.toNat + 1))
  have hm := y0B (n.getD i.toNat yV) s
  have hk : Vo (n.getD i.toNat yV) = (List.length (n.getD i.toNat yV) : Int) := rfl
  have e : Z9 (s, yo n i) = some (Wh s (yo n i)) := y2n s _ (by show s.length + List.length (n.getD i.toNat yV) ≤ _; omega)
  refine ⟨?_, by omega⟩
  unfold ZY
  simp only [Bool.cond_eq_ite, decide_eq_true_eq, h0, h1, if_true, hw, e, Option.bind_some]
  rfl
 ·intro again i s hi
  unfold ZY
  simp only [Bool.cond_eq_ite, decide_eq_true_eq, if_neg hi]
 ·rw [hD]
  rfl
theorem Yy (q : List Int) (t : List y0) (ht : t.length ≤ 1073741824) (hm : ∀ n ∈ t, List.length n ≤ 1073741824) (h : Wg Qr t ≤ 1048576) : yL (q, t) = some (zF t) := by
 unfold yL qx
 refine Y5 (step := ZZ _) (fun (i : Int) (s : List y9) => (i, q, t, s)) (fun s => some s) yz KW t (by omega) (fun i s => (s.length : Int) + Wg Qr (t.drop i) ≤ Wg Qr t) ?_ ?_ [] (by simp)
 ·intro again i s h0 h1 hI
  have hw : Go.IntKind.wrap .i64 (i + 1) = i + 1 := w64 (by omega) (by omega)
  rw [wO yz t i h0 h1, Yb, show (i + 1).toNat = i.toNat + 1 by omega] at hI
  have hnn := W4 KJ (t.drop (i.toNat + 1))
  have hge := y1R (t.getD i.toNat yz)
  have hk := Vg (t.getD i.toNat yz)
  have e : yA (yf t i) = some (z3 (yf t i)) := Zc _ (hm _ (yZ yz t i h0 h1)) (by show Wg Vo (t.getD i.toNat yz) ≤ _; omega)
  have hT : (KW s (t.getD i.toNat yz)).length = s.length + (z3 (t.getD i.toNat yz)).length := List.length_append
  have c1 : (s.length + (z3 (yf t i)).length) * 40 < 140737488355328 := by
   show (s.length + (z3 (t.getD i.toNat yz)).length) * 40 < 140737488355328
   generalize (z3 (t.getD i.toNat yz)).length = m at hk ⊢
   clear hT e
   have : s.length + m ≤ 1048576 := by omega
   omega
  refine ⟨?_, by rw [hT]; omega⟩
  unfold ZZ
  simp only [Bool.cond_eq_ite, decide_eq_true_eq, h0, h1, if_true, hw, e, Option.bind_some, c1]
  rfl
 ·intro again i s hi
  unfold ZZ
  simp only [Bool.cond_eq_ite, decide_eq_true_eq, if_neg hi]
theorem y2o (a b : List y9) (h : a.length + b.length ≤ 1073741824) : Z7 (a, b) = some (Wh a b) := by
 unfold Z7 Y1 Vx
 simp only [List.length_nil, Nat.zero_add, List.nil_append]
 rw [if_pos (by omega), Option.bind_some]
 refine Y5 (step := Zg _) (fun (i : Int) (s : List y9) => (b, (b.length : Int), i, s)) (fun s => some s) zb wl b (by omega) (fun i s => s.length ≤ a.length + i) ?_ ?_ a (by simp)
 ·intro again i s h0 h1 hI
  have hw : Go.IntKind.wrap .i64 (i + 1) = i + 1 := w64 (by omega) (by omega)
  have hs := wh s (b.getD i.toNat zb)
  have e := VQ s (y6 b i).1 (y6 b i).2.1 (y6 b i).2.2.1 (y6 b i).2.2.2.1 (y6 b i).2.2.2.2 (by omega)
  refine ⟨?_, by omega⟩
  unfold Zg
  simp only [Bool.cond_eq_ite, decide_eq_true_eq, h0, h1, if_true, hw, e, Option.bind_some]
  rfl
 ·intro again i s hi
  unfold Zg
  simp only [Bool.cond_eq_ite, decide_eq_true_eq, if_neg hi]
theorem y2N (l : List y9) (h : l.length ≤ 1073741824) : Jp l = some (y4k l) := by
 unfold Jp y1N
 refine Y5 (step := Ws _) (fun (i : Int) (s : List y9) => (l, (l.length : Int), i, s)) (fun s => some s) zb Vf l (by omega) (fun i s => s.length ≤ i) ?_ ?_ [] (by simp)
 ·intro again i s h0 h1 hI
  have hw : Go.IntKind.wrap .i64 (i + 1) = i + 1 := w64 (by omega) (by omega)
  have hs := y1j s (l.getD i.toNat zb)
  refine ⟨?_, by omega⟩
  have c1 : (s.length + 1) * 40 < 140737488355328 := by omega
  clear hs
  unfold Ws Vf
  obtain ⟨⟨x1, x2, x3, x4, x5⟩, hx⟩ : ∃ x, y6 l i = x := ⟨_, rfl⟩
  have hx' : l.getD i.toNat zb = (x1, x2, x3, x4, x5) := hx
  rw [hx']
  simp only [Bool.cond_eq_ite, decide_eq_true_eq, h0, h1, if_true, hw, hx, List.length_cons, List.length_nil, Nat.zero_add, c1]
  by_cases h3 : x3 = 0
  ·rw [if_neg (by simpa using h3), if_pos h3]
  ·rw [if_pos (by simpa using h3), if_neg h3]
 ·intro again i s hi
  unfold Ws
  simp only [Bool.cond_eq_ite, decide_eq_true_eq, if_neg hi]
theorem jV (n : List yb) (hn : n.length ≤ 1073741824) (h : Wg Vo n ≤ 1048576) : yK n = some (z3 n) := by
 have hlen := y1Q n []
 simp only [List.length_nil] at hlen
 have hD := y2N (n.foldl Wh []) (by omega)
 unfold yK qr
 refine (Y5 (step := ZQ _) (fun (i : Int) (s : List y9) => (n, (n.length : Int), i, s)) (fun s => Option.bind (Jp s) fun r3 => some r3) yV Wh n (by omega) (fun i s => (s.length : Int) + Wg Vo (n.drop i) ≤ Wg Vo n) ?_ ?_ [] (by simp)).trans ?_
 ·intro again i s h0 h1 hI
  have hw : Go.IntKind.wrap .i64 (i + 1) = i + 1 := w64 (by omega) (by omega)
  rw [wO yV n i h0 h1, Yb, show (i + 1).toNat = i.toNat + 1 by omega] at hI
  have hnn := W4 Kf (n.drop (i.toNat + 1))
  have hm := y0B (n.getD i.toNat yV) s
  have hk : Vo (n.getD i.toNat yV) = (List.length (n.getD i.toNat yV) : Int) := rfl
  have e : Z7 (s, yo n i) = some (Wh s (yo n i)) := y2o s _ (by show s.length + List.length (n.getD i.toNat yV) ≤ _; omega)
  refine ⟨?_, by omega⟩
  unfold ZQ
  simp only [Bool.cond_eq_ite, decide_eq_true_eq, h0, h1, if_true, hw, e, Option.bind_some]
  rfl
 ·intro again i s hi
  unfold ZQ
  simp only [Bool.cond_eq_ite, decide_eq_true_eq, if_neg hi]
 ·rw [hD]
  rfl
theorem Qk (q : List Int) (t : List y0) (ht : t.length ≤ 1073741824) (hm : ∀ n ∈ t, List.length n ≤ 1073741824) (h : Wg Qr t ≤ 1048576) : Yr (q, t) = some (zF t) := by
 unfold Yr qt
 refine Y5 (step := ZT _) (fun (i : Int) (s : List y9) => (t, (t.length : Int), i, s)) (fun s => some s) yz KW t (by omega) (fun i s => (s.length : Int) + Wg Qr (t.drop i) ≤ Wg Qr t) ?_ ?_ [] (by simp)
 ·intro again i s h0 h1 hI
  have hw : Go.IntKind.wrap .i64 (i + 1) = i + 1 := w64 (by omega) (by omega)
  rw [wO yz t i h0 h1, Yb, show (i + 1).toNat = i.toNat + 1 by omega] at hI
  have hnn := W4 KJ (t.drop (i.toNat + 1))
  have hge := y1R (t.getD i.toNat yz)
  have hk := Vg (t.getD i.toNat yz)
  have e : yK (yf t i) = some (z3 (yf t i)) := jV _ (hm _ (yZ yz t i h0 h1)) (by show Wg Vo (t.getD i.toNat yz) ≤ _; omega)
  have hT : (KW s (t.getD i.toNat yz)).length = s.length + (z3 (t.getD i.toNat yz)).length := List.length_append
  have c1 : (s.length + (z3 (yf t i)).length) * 40 < 140737488355328 := by
   show (s.length + (z3 (t.getD i.toNat yz)).length) * 40 < 140737488355328
   generalize (z3 (t.getD i.toNat yz)).length = m at hk ⊢
   clear hT e
   have : s.length + m ≤ 1048576 := by omega
   omega
  refine ⟨?_, by rw [hT]; omega⟩
  unfold ZT
  simp only [Bool.cond_eq_ite, decide_eq_true_eq, h0, h1, if_true, hw, e, Option.bind_some, c1]
  rfl
 ·intro again i s hi
  unfold ZT
  simp only [Bool.cond_eq_ite, decide_eq_true_eq, if_neg hi]
end Go.Proofs.YthgdjjdigalckaaGreat.Pl
namespace Go.Proofs.YthgdjjdigalckaaGreat.Pl
open Go.Proofs.YthgdjjdigalckaaGreat.R Go.Proofs.YthgdjjdigalckaaGreat.XB
def y8X {S A R : Type} (g : Int → S → A → Except (Option R) S) (k : S → Option R) : List A → Int → S → Option R
 | [], _, s => k s
 | a :: l, i, s => match g i s a with
  | .error r => r
  | .ok s' => y8X g k l (i + 1) s'
theorem y8Y {T A S R : Type} {step : (T → Option R) → T → Option R} (mk : Int → S → T) (g : Int → S → A → Except (Option R) S) (k : S → Option R) (da : A) (l : List A) (hl : l.length ≤ 1099511627776) (I : Nat → S → Prop)
  (h : ∀ again i s, 0 ≤ i → i < (l.length : Int) → I i.toNat s → (step again (mk i s) = match g i s (l.getD i.toNat da) with
   | .error r => r
   | .ok s' => again (mk (i + 1) s')) ∧ ∀ s', g i s (l.getD i.toNat da) = .ok s' → I (i.toNat + 1) s')
  (hd : ∀ again i s, ¬ i < (l.length : Int) → step again (mk i s) = k s) (s : S) (hs : I 0 s) : zI step Y0 (mk 0 s) = y8X g k l 0 s := by
 have key : ∀ (n : Nat) (i : Int) (s : S), 0 ≤ i → i ≤ l.length → I i.toNat s → l.length - i.toNat < n → zI step n (mk i s) = y8X g k (l.drop i.toNat) i s := by
  intro n
  induction n with
  | zero => intro i s _ _ _ hn; omega
  | succ n ih =>
   intro i s h0 h1 hI hn
   rw [zI]
   by_cases hi : i < (l.length : Int)
   ·obtain ⟨e, hI'⟩ := h (zI step n) i s h0 hi hI
    have e1 : (i + 1).toNat = i.toNat + 1 := by omega
    rw [e, wO da l i h0 hi, y8X]
    cases hg : g i s (l.getD i.toNat da) with
    | error r => rfl
    | ok s' => exact ih (i + 1) s' (by omega) (by omega) (by rw [e1]; exact hI' s' hg) (by omega)
   ·rw [hd _ i s hi, List.drop_of_length_le (by omega)]
    rfl
 have := key Y0 0 s (by omega) (by omega) hs (by rw [y1e]; simp; omega)
 simpa using this
def ZE {A : Type} (p : A → Bool) : List A → Int → Int
 | [], _ => -1
 | a :: l, i => if p a then i else ZE p l (i + 1)
theorem y8Z {A R : Type} (p : A → Bool) (hit : Int → Option R) (miss : Option R) : ∀ (l : List A) (i : Int), 0 ≤ i → y8X (fun i (_ : Unit) a => if p a then .error (hit i) else .ok ()) (fun _ => miss) l i () = if ZE p l i < 0 then miss else hit (ZE p l i)
 | [], i, _ => by simp [y8X, ZE]
 | a :: l, i, h => by
  rw [y8X, ZE]
  by_cases hp : p a = true
  ·rw [if_pos hp, if_pos hp, if_neg (by omega)]
  ·rw [if_neg hp, if_neg hp]
   exact y8Z p hit miss l (i + 1) (by omega)
theorem Zw {T A R : Type} {step : (T → Option R) → T → Option R} (mk : Int → T) (p : A → Bool) (hit : Int → Option R) (miss : Option R) (da : A) (l : List A) (hl : l.length ≤ 1099511627776)
  (h : ∀ again i, 0 ≤ i → i < (l.length : Int) → step again (mk i) = if p (l.getD i.toNat da) then hit i else again (mk (i + 1)))
  (hd : ∀ again i, ¬ i < (l.length : Int) → step again (mk i) = miss) : zI step Y0 (mk 0) = if ZE p l 0 < 0 then miss else hit (ZE p l 0) := by
 rw [← y8Z p hit miss l 0 (Int.le_refl _)]
 refine y8Y (fun i (_ : Unit) => mk i) _ _ da l hl (fun _ _ => True) (fun again i s h0 h1 _ => ⟨?_, fun _ _ => trivial⟩) (fun again i s hi => hd again i hi) () trivial
 rw [h again i h0 h1]
 cases p (l.getD i.toNat da) <;> rfl
theorem Kg {A : Type} (p : A → Bool) (da : A) : ∀ (l : List A) (i : Int), 0 ≤ i → ZE p l i = -1 ∨ (i ≤ ZE p l i ∧ ZE p l i < i + l.length ∧ p (l.getD (ZE p l i - i).toNat da) = true)
 | [], i, _ => .inl rfl
 | a :: l, i, h => by
  rw [ZE]
  by_cases hp : p a = true
  ·rw [if_pos hp]
   refine .inr ⟨Int.le_refl _, by simp only [List.length_cons]; omega, ?_⟩
   simpa using hp
  ·rw [if_neg hp]
   rcases Kg p da l (i + 1) (by omega) with e | ⟨e1, e2, e3⟩
   ·exact .inl e
   ·refine .inr ⟨by omega, by simp only [List.length_cons]; omega, ?_⟩
    rw [show (ZE p l (i + 1) - i).toNat = (ZE p l (i + 1) - (i + 1)).toNat + 1 by omega, List.getD_cons_succ]
    exact e3
def zV (l : List ya) (id : Int) : Int := ZE (fun a : ya => a.1 == id) l 0
theorem y0C (l : List ya) (id : Int) : zV l id = -1 ∨ (0 ≤ zV l id ∧ zV l id < l.length ∧ (l.getD (zV l id).toNat YT).1 = id) := by
 rcases Kg (fun a : ya => a.1 == id) YT l 0 (Int.le_refl _) with h | ⟨h1, h2, h3⟩
 ·exact .inl h
 ·refine .inr ⟨h1, by simpa [zV] using h2, ?_⟩
  have := eq_of_beq h3
  simpa [zV] using this
theorem Yo (l : List ya) (id : Int) (hl : l.length ≤ 1073741824) : zy (l, id) = some (zV l id) := by
 unfold zy y0U
 refine (Zw (step := wF _ _) (fun i => (l, id, i)) (fun a : ya => a.1 == id) (fun x => some x) (some (-1)) YT l (by omega) ?_ ?_).trans ?_
 ·intro again i h0 h1
  have hw : Go.IntKind.wrap .i64 (i + 1) = i + 1 := w64 (by omega) (by omega)
  unfold wF
  simp only [Bool.cond_eq_ite, decide_eq_true_eq, h0, h1, if_true, hw]
  rfl
 ·intro again i hi
  unfold wF
  simp only [Bool.cond_eq_ite, decide_eq_true_eq, if_neg hi]
 ·rcases y0C l id with h | ⟨h1, h2, h3⟩ <;> unfold zV at *
  ·rw [h]
   rfl
  ·rw [if_neg (by omega)]
theorem kF (l : List ya) (id : Int) (hl : l.length ≤ 1073741824) : Yq (l, id) = some (zV l id) := by
 have key : yY (l, id) = some (zV l id, id) := by
  unfold yY YE
  refine (Zw (step := yR _ _) (fun i => (l, (l.length : Int), i, id)) (fun a : ya => a.1 == id) (fun x => some (x, id)) (some (-1, id)) YT l (by omega) ?_ ?_).trans ?_
  ·intro again i h0 h1
   have hw : Go.IntKind.wrap .i64 (i + 1) = i + 1 := w64 (by omega) (by omega)
   unfold yR Km
   simp only [Bool.cond_eq_ite, decide_eq_true_eq, h0, h1, if_true, hw, Option.bind_some]
   rfl
  ·intro again i hi
   unfold yR
   simp only [Bool.cond_eq_ite, decide_eq_true_eq, if_neg hi]
  ·rcases y0C l id with h | ⟨h1, h2, h3⟩ <;> unfold zV at *
   ·rw [h]
    rfl
   ·rw [if_neg (by omega)]
 unfold Yq
 rw [key]
 rfl
def ylX (l : List Int) (v : Int) : Bool := decide (0 ≤ ZE (fun a : Int => a == v) l 0)
theorem yaD (l : List Int) (v : Int) (hl : l.length ≤ 1073741824) : KC (l, v) = some (ylX l v) := by
 unfold KC y0X
 refine (Zw (step := wK _ _) (fun i => (l, v, i)) (fun a : Int => a == v) (fun _ => some true) (some false) y4X l (by omega) ?_ ?_).trans ?_
 ·intro again i h0 h1
  have hw : Go.IntKind.wrap .i64 (i + 1) = i + 1 := w64 (by omega) (by omega)
  unfold wK
  simp only [Bool.cond_eq_ite, decide_eq_true_eq, h0, h1, if_true, hw]
  rfl
 ·intro again i hi
  unfold wK
  simp only [Bool.cond_eq_ite, decide_eq_true_eq, if_neg hi]
 ·unfold ylX
  by_cases h : ZE (fun a : Int => a == v) l 0 < 0
  ·rw [if_pos h, decide_eq_false (by omega)]
  ·rw [if_neg h, decide_eq_true (by omega)]
theorem yaE (l : List Int) (v : Int) (hl : l.length ≤ 1073741824) : Ys (l, v) = some (ylX l v) := by
 have key : Zl (l, v) = some (ZE (fun a : Int => a == v) l 0) := by
  unfold Zl va
  refine (Zw (step := YG _ _) (fun i => (l, v, (l.length : Int), i)) (fun a : Int => a == v) (fun x => some x) (some (-1)) y4X l (by omega) ?_ ?_).trans ?_
  ·intro again i h0 h1
   have hw : Go.IntKind.wrap .i64 (i + 1) = i + 1 := w64 (by omega) (by omega)
   unfold YG
   have e : (v == (zu l i)) = ((zu l i) == v) := Bool.beq_comm
   simp only [Bool.cond_eq_ite, decide_eq_true_eq, h0, h1, if_true, hw, e]
   rfl
  ·intro again i hi
   unfold YG
   simp only [Bool.cond_eq_ite, decide_eq_true_eq, if_neg hi]
  ·rcases Kg (fun a : Int => a == v) y4X l 0 (Int.le_refl _) with h | ⟨h1, h2, h3⟩
   ·rw [h]
    rfl
   ·rw [if_neg (by omega)]
 unfold Ys
 rw [key]
 rfl
def y0L (l : List ya) : Nat → Int → List Int
 | 0, _ => []
 | n + 1, at_ => if at_ < 0 then [] else (l.getD at_.toNat YT).1 :: y0L l n (zV l (l.getD at_.toNat YT).2)
def y0Y (l : List ya) (id : Int) : List Int := y0L l (l.length + 1) (zV l id)
theorem y90 (l : List ya) (n : Nat) (i : Int) (h : 0 ≤ i) : y0L l (n + 1) i = (l.getD i.toNat YT).1 :: y0L l n (zV l (l.getD i.toNat YT).2) := by rw [y0L, if_neg (by omega)]
theorem yer (l : List ya) (n : Nat) : y0L l n (-1) = [] := by cases n <;> simp [y0L]
theorem y91 (l : List ya) : ∀ (n : Nat) (i : Int), (y0L l n i).length ≤ n
 | 0, _ => by simp [y0L]
 | n + 1, i => by
  rw [y0L]
  split
  ·simp
  ·have := y91 l n (zV l (l.getD i.toNat YT).2)
   simp only [List.length_cons]
   omega
theorem y0Z (l : List ya) (id : Int) (hl : l.length ≤ 1048576) : wd (l, id) = some (y0Y l id) := by
 unfold wd y03 y0Y
 rw [Yo l id (by omega), Option.bind_some]
 have key := YH (step := WS (fun x4 => some x4)) (fun t : WR => l.length + 1 - t.2.2.length) (fun t => t.1 = l ∧ t.2.2.length ≤ l.length + 1 ∧ ∃ id, t.2.1 = zV l id) (fun t => some (t.2.2 ++ y0L l (l.length + 1 - t.2.2.length) t.2.1)) ?_ (l, zV l id, []) ⟨rfl, by simp, id, rfl⟩ (by simp; omega)
 ·simpa using key
 ·rintro again ⟨l', at_, o⟩ ⟨hll, ho, id', hid⟩ hag
  simp only at hll ho hid
  subst hll hid
  unfold WS
  simp only [Bool.cond_eq_ite, decide_eq_true_eq, List.length_cons, List.length_nil, Nat.zero_add]
  rcases y0C l' id' with h | ⟨h1, h2, h3⟩
  ·rw [h]
   have : y0L l' (l'.length + 1 - o.length) (-1) = [] := by
    cases l'.length + 1 - o.length <;> simp [y0L]
   simp [this]
  ·simp only [ge_iff_le, h1, if_true, h2]
   by_cases hlen : (o.length : Int) ≤ (l'.length : Int)
   ·have e := Yo l' (yD l' (zV l' id')).2 (by omega)
    rw [show l'.length + 1 - o.length = (l'.length - o.length) + 1 by omega, y90 _ _ _ h1]
    simp only [hlen, decide_true, Option.bind_some, if_true, e]
    have hl1 : (o ++ [(yD l' (zV l' id')).1]).length = o.length + 1 := by simp
    rw [if_pos (by omega), hag (l', zV l' (yD l' (zV l' id')).2, o ++ [(yD l' (zV l' id')).1]) ⟨rfl, by show (o ++ [(yD l' (zV l' id')).1]).length ≤ _; omega, _, rfl⟩ (by show l'.length + 1 - (o ++ [(yD l' (zV l' id')).1]).length < l'.length + 1 - o.length; omega)]
    simp only [hl1]
    rw [show l'.length + 1 - (o.length + 1) = l'.length - o.length by omega, List.append_assoc]
    rfl
   ·rw [show l'.length + 1 - o.length = 0 by omega]
    simp [hlen, y0L]
theorem y10 (l : List ya) (id : Int) (hl : l.length ≤ 1048576) : w6 (l, id) = some (y0Y l id) := by
 unfold w6 QR y0Y
 simp only
 rw [w64 (n := (l.length : Int) + 1) (by omega) (by omega)]
 have key := YH (step := WE (fun x2 => some x2)) (fun t : WD => l.length + 1 - t.2.2.2.2.length) (fun t => t.1 = l ∧ t.2.2.1 = (l.length : Int) + 1 ∧ t.2.2.2.1 = (t.2.2.2.2.length : Int) ∧ t.2.2.2.2.length ≤ l.length + 1) (fun t => some (t.2.2.2.2 ++ y0L l (l.length + 1 - t.2.2.2.2.length) (zV l t.2.1))) ?_ (l, id, (l.length : Int) + 1, 0, []) ⟨rfl, rfl, by simp, by simp⟩ (by simp; omega)
 ·simpa using key
 ·rintro again ⟨l', id', n, i, o⟩ ⟨hll, hn, hi, ho⟩ hag
  simp only at hll ho hn hi
  subst hll hn hi
  unfold WE
  have e := kF l' id' (by omega)
  simp only [Bool.cond_eq_ite, decide_eq_true_eq, e, Option.bind_some, List.length_cons, List.length_nil, Nat.zero_add]
  by_cases hlen : (o.length : Int) < (l'.length : Int) + 1
  ·rw [if_pos hlen, show l'.length + 1 - o.length = (l'.length - o.length) + 1 by omega]
   rcases y0C l' id' with h | ⟨h1, h2, h3⟩
   ·rw [h, yer]
    simp
   ·have hw : Go.IntKind.wrap .i64 ((o.length : Int) + 1) = (o.length : Int) + 1 := w64 (by omega) (by omega)
    have hl1 : (o ++ [id']).length = o.length + 1 := by simp
    rw [y90 _ _ _ h1, if_neg (by omega), if_pos (by omega), if_pos h1, if_pos h2, hw, hag (l', (yD l' (zV l' id')).2, (l'.length : Int) + 1, (o.length : Int) + 1, o ++ [id']) ⟨rfl, rfl, by show _ = ((o ++ [id']).length : Int); rw [hl1]; rfl, by show (o ++ [id']).length ≤ _; omega⟩ (by show l'.length + 1 - (o ++ [id']).length < l'.length + 1 - o.length; omega), h3]
    simp only [hl1]
    rw [show l'.length + 1 - (o.length + 1) = l'.length - o.length by omega, List.append_assoc]
    rfl
  ·rw [if_neg hlen, show l'.length + 1 - o.length = 0 by omega]
   simp [y0L]
end Go.Proofs.YthgdjjdigalckaaGreat.Pl
namespace Go.Proofs.YthgdjjdigalckaaGreat.Pl
open Go.Proofs.YthgdjjdigalckaaGreat.R Go.Proofs.YthgdjjdigalckaaGreat.XB
theorem Yz (x a b : Int) : yu (x, a, b) = some (inR x a b) := by
 unfold yu inR
 by_cases h : x ≥ a <;> simp [h]
theorem YJ (x a b : Int) : yw (x, a, b) = some (inR x a b) := by
 unfold yw inR
 by_cases h : x ≥ a <;> simp [h]
theorem bi (x y : Int) : ((x == y) = true) = (x = y) := by simp
end Go.Proofs.YthgdjjdigalckaaGreat.Pl
namespace Go.Proofs.YthgdjjdigalckaaGreat.Pl
open Go.Proofs.YthgdjjdigalckaaGreat.R Go.Proofs.YthgdjjdigalckaaGreat.XB
def YA {A : Type} (p : Int → A → Bool) : List A → Int → Bool
 | [], _ => false
 | a :: l, i => p i a || YA p l (i + 1)
theorem yaF {A : Type} (p q : Int → A → Bool) : ∀ (l : List A) (i : Int), YA (fun i a => p i a || q i a) l i = (YA p l i || YA q l i)
 | [], _ => rfl
 | a :: l, i => by
  rw [YA, YA, YA, yaF p q l (i + 1)]
  cases p i a <;> cases q i a <;> cases YA p l (i + 1) <;> rfl
theorem y5O {A : Type} {p q : Int → A → Bool} : ∀ (l : List A) (i : Int), (∀ j a, i ≤ j → p j a = q j a) → YA p l i = YA q l i
 | [], _, _ => rfl
 | a :: l, i, h => by rw [YA, YA, h i a (Int.le_refl _), y5O l (i + 1) (fun j a hj => h j a (by omega))]
theorem ybH {A : Type} (da : A) {p : Int → A → Bool} : ∀ (l : List A) (i : Int), YA p l i = false → ∀ j : Nat, j < l.length → p (i + j) (l.getD j da) = false
 | a :: l, i, h, 0, _ => by
  rw [YA, Bool.or_eq_false_iff] at h
  simpa using h.1
 | a :: l, i, h, j + 1, hj => by
  rw [YA, Bool.or_eq_false_iff] at h
  have := ybH da l (i + 1) h.2 j (by simpa using hj)
  rw [show i + ((j + 1 : Nat) : Int) = i + 1 + (j : Int) by omega, List.getD_cons_succ]
  exact this
theorem y3F {A S R : Type} (p : Int → A → Bool) (f : S → A → S) (r : Option R) (k : S → Option R) : ∀ (l : List A) (i : Int) (s : S), y8X (fun i s a => if p i a = true then .error r else .ok (f s a)) k l i s = if YA p l i = true then r else k (l.foldl f s)
 | [], _, _ => by simp [y8X, YA]
 | a :: l, i, s => by
  rw [y8X, YA]
  by_cases h : p i a = true
  ·simp [h]
  ·have hf : p i a = false := by simpa using h
   simp only [hf, Bool.false_eq_true, if_false, Bool.false_or, List.foldl_cons]
   exact y3F p f r k l (i + 1) (f s a)
theorem y4m {T A S R : Type} {step : (T → Option R) → T → Option R} (mk : Int → S → T) (g : Int → S → A → Except (Option R) S) (k : S → Option R) (da : A) (l : List A) (hl : l.length ≤ 1099511627776) (I : Nat → S → Prop)
  (h : ∀ again i s, 0 ≤ i → i < (l.length : Int) → I i.toNat s → (step again (mk i s) = match g i s (l.getD i.toNat da) with
   | .error r => r
   | .ok s' => again (mk (i + 1) s')) ∧ ∀ s', g i s (l.getD i.toNat da) = .ok s' → I (i.toNat + 1) s')
  (hd : ∀ again i s, ¬ i < (l.length : Int) → step again (mk i s) = k s) (i0 : Int) (h00 : 0 ≤ i0) (s : S) (hs : I i0.toNat s) : zI step Y0 (mk i0 s) = y8X g k (l.drop i0.toNat) i0 s := by
 have key : ∀ (n : Nat) (i : Int) (s : S), 0 ≤ i → I i.toNat s → l.length - i.toNat < n → zI step n (mk i s) = y8X g k (l.drop i.toNat) i s := by
  intro n
  induction n with
  | zero => intro i s _ _ hn; omega
  | succ n ih =>
   intro i s h0 hI hn
   rw [zI]
   by_cases hi : i < (l.length : Int)
   ·obtain ⟨e, hI'⟩ := h (zI step n) i s h0 hi hI
    have e1 : (i + 1).toNat = i.toNat + 1 := by omega
    rw [e, wO da l i h0 hi, y8X]
    cases hg : g i s (l.getD i.toNat da) with
    | error r => rfl
    | ok s' => exact ih (i + 1) s' (by omega) (by rw [e1]; exact hI' s' hg) (by omega)
   ·rw [hd _ i s hi, List.drop_of_length_le (by omega)]
    rfl
 exact key Y0 i0 s h00 hs (by rw [y1e]; omega)
theorem y3G {T A S R : Type} {step : (T → Option R) → T → Option R} (mk : Int → S → T) (p : Int → A → Bool) (f : S → A → S) (r : Option R) (k : S → Option R) (da : A) (l : List A) (hl : l.length ≤ 1099511627776)
  (h : ∀ again i s, 0 ≤ i → i < (l.length : Int) → step again (mk i s) = if p i (l.getD i.toNat da) = true then r else again (mk (i + 1) (f s (l.getD i.toNat da))))
  (hd : ∀ again i s, ¬ i < (l.length : Int) → step again (mk i s) = k s) (s : S) : zI step Y0 (mk 0 s) = if YA p l 0 = true then r else k (l.foldl f s) := by
 rw [← y3F p f r k l 0 s]
 have := y4m (step := step) mk (fun i s a => if p i a = true then .error r else .ok (f s a)) k da l hl (fun _ _ => True) (fun again i s h0 h1 _ => ⟨?_, fun _ _ => trivial⟩) hd 0 (Int.le_refl _) s trivial
 ·simpa using this
 ·rw [h again i s h0 h1]
  by_cases hp : p i (l.getD i.toNat da) = true
  ·rw [if_pos hp, if_pos hp]
  ·rw [if_neg hp, if_neg hp]
theorem zP {T A R : Type} {step : (T → Option R) → T → Option R} (mk : Int → T) (p : Int → A → Bool) (r k : Option R) (da : A) (l : List A) (hl : l.length ≤ 1099511627776)
  (h : ∀ again i, 0 ≤ i → i < (l.length : Int) → step again (mk i) = if p i (l.getD i.toNat da) = true then r else again (mk (i + 1)))
  (hd : ∀ again i, ¬ i < (l.length : Int) → step again (mk i) = k) : zI step Y0 (mk 0) = if YA p l 0 = true then r else k :=
 y3G (fun i (_ : Unit) => mk i) p (fun _ _ => ()) r (fun _ => k) da l hl (fun again i _ h0 h1 => h again i h0 h1) (fun again i _ hi => hd again i hi) ()
end Go.Proofs.YthgdjjdigalckaaGreat.Pl
namespace Go.Proofs.YthgdjjdigalckaaGreat.Pl
open Go.Proofs.YthgdjjdigalckaaGreat.R Go.Proofs.YthgdjjdigalckaaGreat.XB
def y1S (blk : Int) (s : List y9) (a : y9) : List y9 := if a.1 == blk then s ++ [a] else s
def VF (ks : List y9) (blk : Int) : List y9 := ks.foldl (y1S blk) []
theorem y2p (blk : Int) (s : List y9) (a : y9) : (y1S blk s a).length ≤ s.length + 1 := by
 unfold y1S
 split <;> simp
theorem y4n (blk : Int) : ∀ (l s : List y9), (l.foldl (y1S blk) s).length ≤ s.length + l.length
 | [], s => by simp
 | c :: l, s => by
  have h := y4n blk l (y1S blk s c)
  have h2 := y2p blk s c
  simp only [List.foldl_cons, List.length_cons]
  omega
theorem y92 : ∀ (t : List y0) (s : List y9), ((t.foldl KW s).length : Int) ≤ s.length + Wg Qr t
 | [], s => by simp [Wg]
 | n :: t, s => by
  have h := y92 t (KW s n)
  have h1 := Vg n
  have h2 := y1R n
  have h3 : (KW s n).length = s.length + (z3 n).length := List.length_append
  simp only [List.foldl_cons, Yb]
  omega
theorem y93 (t : List y0) : ((zF t).length : Int) ≤ Wg Qr t := by
 have := y92 t []
 simpa [zF] using this
structure TOk (t : List y0) : Prop where
 len : t.length ≤ 1048576
 nodes : ∀ n ∈ t, List.length n ≤ 1073741824
 sum : Wg Qr t ≤ 1048576
theorem TOk.keys {t : List y0} (h : TOk t) : (zF t).length ≤ 1048576 := by
 have h1 := y93 t
 have h2 := h.sum
 omega
theorem y52 (q : List Int) (t : List y0) (blk : Int) (ht : TOk t) : WT (q, t, blk) = some (VF (zF t) blk) := by
 unfold WT y04
 have hk := ht.keys
 have e : yL (q, t) = some (zF t) := Yy q t (by have := ht.len; omega) ht.nodes ht.sum
 simp only [e, Option.bind_some]
 generalize zF t = ks at hk
 refine Y5 (step := JL _) (fun (i : Int) (s : List y9) => (blk, i, s, ks)) (fun s => some s) zb (y1S blk) ks (by omega) (fun i s => s.length ≤ i) ?_ ?_ [] (by simp)
 ·intro again i s h0 h1 hI
  have hw : Go.IntKind.wrap .i64 (i + 1) = i + 1 := w64 (by omega) (by omega)
  have hs := y2p blk s (ks.getD i.toNat zb)
  refine ⟨?_, by omega⟩
  have c1 : (s.length + 1) * 40 < 140737488355328 := by omega
  clear hs
  unfold JL y1S
  obtain ⟨⟨x1, x2, x3, x4, x5⟩, hx⟩ : ∃ x, y6 ks i = x := ⟨_, rfl⟩
  have hx' : ks.getD i.toNat zb = (x1, x2, x3, x4, x5) := hx
  rw [hx']
  simp only [Bool.cond_eq_ite, decide_eq_true_eq, h0, h1, if_true, hw, hx, List.length_cons, List.length_nil, Nat.zero_add, c1]
  by_cases h3 : (x1 == blk) = true
  ·rw [if_pos h3, if_pos h3]
  ·rw [if_neg h3, if_neg h3]
 ·intro again i s hi
  unfold JL
  simp only [Bool.cond_eq_ite, decide_eq_true_eq, if_neg hi]
theorem y53 (q : List Int) (t : List y0) (blk : Int) (ht : TOk t) : WC (q, t, blk) = some (VF (zF t) blk) := by
 unfold WC QP
 have hk := ht.keys
 have e : Yr (q, t) = some (zF t) := Qk q t (by have := ht.len; omega) ht.nodes ht.sum
 simp only [e, Option.bind_some]
 generalize zF t = ks at hk
 refine Y5 (step := JA _) (fun (i : Int) (s : List y9) => (blk, (ks.length : Int), i, s, ks)) (fun s => some s) zb (y1S blk) ks (by omega) (fun i s => s.length ≤ i) ?_ ?_ [] (by simp)
 ·intro again i s h0 h1 hI
  have hw : Go.IntKind.wrap .i64 (i + 1) = i + 1 := w64 (by omega) (by omega)
  have hs := y2p blk s (ks.getD i.toNat zb)
  refine ⟨?_, by omega⟩
  have c1 : (s.length + 1) * 40 < 140737488355328 := by omega
  clear hs
  unfold JA y1S
  obtain ⟨⟨x1, x2, x3, x4, x5⟩, hx⟩ : ∃ x, y6 ks i = x := ⟨_, rfl⟩
  have hx' : ks.getD i.toNat zb = (x1, x2, x3, x4, x5) := hx
  rw [hx']
  simp only [Bool.cond_eq_ite, decide_eq_true_eq, h0, h1, if_true, hw, hx, List.length_cons, List.length_nil, Nat.zero_add, c1]
  by_cases h3 : (x1 == blk) = true
  ·rw [if_pos h3, if_pos h3]
  ·rw [if_neg h3, if_neg h3]
 ·intro again i s hi
  unfold JA
  simp only [Bool.cond_eq_ite, decide_eq_true_eq, if_neg hi]
def y1k (path : List Int) (s : Bool × y9) (a : y9) : Bool × y9 := if ylX path a.2.1 = true ∧ (s.1 = false ∨ s.2.2.1 < a.2.1) then (true, a) else s
def y0i (ks : List y9) (path : List Int) : Bool × y9 := ks.foldl (y1k path) (false, (0, 0, 0, 0, 0))
def ans (r : Bool × y9) : Int × Int × Int × Int × Int × Bool := (r.2.1, r.2.2.1, r.2.2.2.1, r.2.2.2.2.1, r.2.2.2.2.2, r.1)
theorem y2O (q : List Int) (t : List y0) (blk : Int) (path : List Int) (ht : TOk t) (hp : path.length ≤ 1073741824) : jA (q, t, blk, path) = some (ans (y0i (VF (zF t) blk) path)) := by
 unfold jA y05
 have hk : (VF (zF t) blk).length ≤ 1048576 := by
  have h1 := y4n blk (zF t) []
  have h2 := ht.keys
  unfold VF
  simp only [List.length_nil] at h1
  omega
 simp only [y52 q t blk ht, Option.bind_some]
 generalize VF (zF t) blk = ks at hk
 refine (Y5 (step := JM _) (fun (i : Int) (s : Bool × y9) => (path, s.1, i, 0, 0, 0, 0, 0, s.2.1, s.2.2.1, s.2.2.2.1, s.2.2.2.2.1, s.2.2.2.2.2, ks)) (fun s => some (ans s)) zb (y1k path) ks (by omega) (fun _ _ => True) ?_ ?_ (false, (0, 0, 0, 0, 0)) trivial)
 ·rintro again i ⟨f, b1, b2, b3, b4, b5⟩ h0 h1 _
  have hw : Go.IntKind.wrap .i64 (i + 1) = i + 1 := w64 (by omega) (by omega)
  refine ⟨?_, trivial⟩
  unfold JM y1k
  obtain ⟨⟨x1, x2, x3, x4, x5⟩, hx⟩ : ∃ x, y6 ks i = x := ⟨_, rfl⟩
  have hx' : ks.getD i.toNat zb = (x1, x2, x3, x4, x5) := hx
  rw [hx']
  have e := yaD path x2 hp
  simp only [Bool.cond_eq_ite, decide_eq_true_eq, h0, h1, if_true, hw, hx, e, Option.bind_some]
  cases ylX path x2 <;> cases f <;> by_cases hb : b2 < x2 <;> simp [hb]
 ·rintro again i ⟨f, b1, b2, b3, b4, b5⟩ hi
  unfold JM
  simp only [Bool.cond_eq_ite, decide_eq_true_eq, if_neg hi]
  rfl
theorem y11 (q : List Int) (t : List y0) (blk : Int) (path : List Int) (ht : TOk t) (hp : path.length ≤ 1073741824) : jt (q, t, blk, path) = some (ans (y0i (VF (zF t) blk) path)) := by
 unfold jt QQ
 have hk : (VF (zF t) blk).length ≤ 1048576 := by
  have h1 := y4n blk (zF t) []
  have h2 := ht.keys
  unfold VF
  simp only [List.length_nil] at h1
  omega
 simp only [y53 q t blk ht, Option.bind_some]
 generalize VF (zF t) blk = ks at hk
 refine (Y5 (step := JB _) (fun (i : Int) (s : Bool × y9) => (path, s.1, (ks.length : Int), i, 0, 0, 0, 0, 0, s.2.1, s.2.2.1, s.2.2.2.1, s.2.2.2.2.1, s.2.2.2.2.2, ks)) (fun s => some (ans s)) zb (y1k path) ks (by omega) (fun _ _ => True) ?_ ?_ (false, (0, 0, 0, 0, 0)) trivial)
 ·rintro again i ⟨f, b1, b2, b3, b4, b5⟩ h0 h1 _
  have hw : Go.IntKind.wrap .i64 (i + 1) = i + 1 := w64 (by omega) (by omega)
  refine ⟨?_, trivial⟩
  unfold JB y1k
  obtain ⟨⟨x1, x2, x3, x4, x5⟩, hx⟩ : ∃ x, y6 ks i = x := ⟨_, rfl⟩
  have hx' : ks.getD i.toNat zb = (x1, x2, x3, x4, x5) := hx
  rw [hx']
  have e := yaE path x2 hp
  simp only [Bool.cond_eq_ite, decide_eq_true_eq, h0, h1, if_true, hw, hx, e, Option.bind_some]
  cases ylX path x2 <;> cases f <;> by_cases hb : b2 < x2 <;> simp [hb]
 ·rintro again i ⟨f, b1, b2, b3, b4, b5⟩ hi
  unfold JB
  simp only [Bool.cond_eq_ite, decide_eq_true_eq, if_neg hi]
  rfl
def y7W (t : List y0) (l : List ya) (blk id : Int) : Bool × y9 := y0i (VF (zF t) blk) (y0Y l id)
theorem y0D (l : List ya) (id : Int) (hl : l.length ≤ 1048576) : (y0Y l id).length ≤ 1073741824 := by
 have := y91 l (l.length + 1) (zV l id)
 unfold y0Y
 omega
theorem y2P (q : List Int) (t : List y0) (l : List ya) (blk id : Int) (ht : TOk t) (hl : l.length ≤ 1048576) : Kb (q, t, l, blk, id) = some (ans (y7W t l blk id)) := by
 unfold Kb
 simp only [y0Z l id hl, y2O q t blk _ ht (y0D l id hl), Option.bind_some]
 rfl
theorem y94 (q : List Int) (t : List y0) (l : List ya) (blk id : Int) (ht : TOk t) (hl : l.length ≤ 1048576) : vN (q, t, l, blk, id) = some (ans (y7W t l blk id)) := by
 unfold vN
 simp only [y10 l id hl, y11 q t blk _ ht (y0D l id hl), Option.bind_some]
 rfl
def ygJ (t : List y0) (l : List ya) (k : y9) (id : Int) : Bool := (y7W t l k.1 id).1 && ((y7W t l k.1 id).2.2.1 == k.2.1)
theorem y95 (q : List Int) (t : List y0) (l : List ya) (k1 k2 k3 k4 k5 id : Int) (ht : TOk t) (hl : l.length ≤ 1048576) : Va (q, t, l, k1, k2, k3, k4, k5, id) = some (ygJ t l (k1, k2, k3, k4, k5) id) := by
 unfold Va ygJ
 simp only [y2P q t l k1 id ht hl, Option.bind_some, ans]
 cases (y7W t l k1 id).1 <;> rfl
def y7X (t : List y0) (l : List ya) (k : y9) (v : ye) : Bool := decide (v.2.2.1 > k.1) && ygJ t l k v.2.1
def yaG (t : List y0) (l : List ya) (vs : List ye) (k : y9) : Bool := decide (0 ≤ ZE (y7X t l k) vs 0)
theorem y2q (q : List Int) (t : List y0) (l : List ya) (cs : List y7) (vs : List ye) (z k1 k2 k3 k4 k5 : Int) (ht : TOk t) (hl : l.length ≤ 1048576) (hv : vs.length ≤ 1048576) : jR (q, t, l, cs, vs, z, k1, k2, k3, k4, k5) = some (yaG t l vs (k1, k2, k3, k4, k5)) := by
 unfold jR VD
 refine (Zw (step := Zt _ _) (fun i => (i, q, t, l, cs, vs, z, k1, k2, k3, k4, k5)) (y7X t l (k1, k2, k3, k4, k5)) (fun _ => some true) (some false) zX vs (by omega) ?_ ?_).trans ?_
 ·intro again i h0 h1
  have hw : Go.IntKind.wrap .i64 (i + 1) = i + 1 := w64 (by omega) (by omega)
  unfold Zt y7X
  obtain ⟨⟨x1, x2, x3, x4⟩, hx⟩ : ∃ x, y8 vs i = x := ⟨_, rfl⟩
  have hx' : vs.getD i.toNat zX = (x1, x2, x3, x4) := hx
  rw [hx']
  have e := y95 q t l k1 k2 k3 k4 k5 x2 ht hl
  simp only [Bool.cond_eq_ite, decide_eq_true_eq, h0, h1, if_true, hw, hx, e, Option.bind_some]
  by_cases hb : x3 > k1 <;> cases ygJ t l (k1, k2, k3, k4, k5) x2 <;> simp [hb]
 ·intro again i hi
  unfold Zt
  simp only [Bool.cond_eq_ite, decide_eq_true_eq, if_neg hi]
 ·unfold yaG
  by_cases h : ZE (y7X t l (k1, k2, k3, k4, k5)) vs 0 < 0
  ·rw [if_pos h, decide_eq_false (by omega)]
  ·rw [if_neg h, decide_eq_true (by omega)]
end Go.Proofs.YthgdjjdigalckaaGreat.Pl
namespace Go.Proofs.YthgdjjdigalckaaGreat.Pl
open Go.Proofs.YthgdjjdigalckaaGreat.R Go.Proofs.YthgdjjdigalckaaGreat.XB
def wm (k : y9) : Bool := inR k.1 0 15 && (inR k.2.1 1 60 && (inR k.2.2.1 0 2 && (if k.2.2.1 = 1 then inR k.2.2.2.1 0 23 && inR k.2.2.2.2 0 999 else (k.2.2.2.1 == 0) && (k.2.2.2.2 == 0))))
theorem y1T (a b c d e : Int) : Wd (a, b, c, d, e) = some (wm (a, b, c, d, e)) := by
 unfold Wd wm
 simp only [Yz, Option.bind_some]
 by_cases hc : c = 1
 ·subst hc
  cases inR a 0 15 <;> cases inR b 1 60 <;> cases inR 1 0 2 <;> cases inR d 0 23 <;> rfl
 ·have hc' : (c == 1) = false := by simpa using hc
  rw [hc', if_neg hc]
  cases inR a 0 15 <;> cases inR b 1 60 <;> cases inR c 0 2 <;> cases (d == 0) <;> rfl
theorem y1U (a b c d e : Int) : Wb (a, b, c, d, e) = some (wm (a, b, c, d, e)) := by
 unfold Wb wm
 simp only [YJ, Option.bind_some]
 by_cases hc : c = 1
 ·subst hc
  cases inR a 0 15 <;> cases inR b 1 60 <;> cases inR 1 0 2 <;> cases inR d 0 23 <;> rfl
 ·have hc' : (c != 1) = true := by simpa using hc
  rw [hc', if_neg hc]
  cases inR a 0 15 <;> cases inR b 1 60 <;> cases inR c 0 2 <;> cases (d == 0) <;> rfl
def W5 (l : List y9) (i : Int) (a : y9) : Bool := decide (0 < i) && !qV (l.getD (i - 1).toNat zb) a
def Ql (l : List y9) : Bool := !YA (fun _ a => !wm a) l 0 && (!YA (W5 l) l 0 && decide ((l.length : Int) ≤ 60))
theorem y7Y (l : List y9) (hl : l.length ≤ 1073741824) : wC l = some (!YA (W5 l) l 0) := by
 unfold wC Qc
 have key := y4m (step := jJ (fun x2 => some x2) (fun x3 => some true)) (fun i (_ : Unit) => (l, i)) (fun i (s : Unit) a => if (decide (0 < i) && !qV (l.getD (i - 1).toNat zb) a) = true ∨ i = 0 then .error (some false) else .ok s) (fun _ => some true) zb l (by omega) (fun i _ => 1 ≤ i) ?_ ?_ 1 (by omega) () (by decide)
 ·rw [key]
  have h1 : YA (W5 l) l 0 = YA (W5 l) (l.drop 1) 1 := by
   cases l with
   | nil => rfl
   | cons a l => simp [YA, W5]
  rw [h1]
  have h2 := y3F (fun i a => decide ((decide (0 < i) && !qV (l.getD (i - 1).toNat zb) a) = true ∨ i = 0)) (fun (s : Unit) _ => s) (some false) (fun _ => some true) (l.drop 1) 1 ()
  simp only [decide_eq_true_eq] at h2
  rw [show (1 : Int).toNat = 1 from rfl, h2]
  have h3 : YA (fun i a => decide ((decide (0 < i) && !qV (l.getD (i - 1).toNat zb) a) = true ∨ i = 0)) (l.drop 1) 1 = YA (W5 l) (l.drop 1) 1 := y5O _ _ fun j a hj => by
   unfold W5
   have : ¬ j = 0 := by omega
   simp [this]
  rw [h3]
  cases YA (W5 l) (l.drop 1) 1 <;> rfl
 ·intro again i s h0 h1 hI
  have hi : 1 ≤ i := by
   have : (1 : Nat) ≤ i.toNat := hI
   omega
  have hw : Go.IntKind.wrap .i64 (i + 1) = i + 1 := w64 (by omega) (by omega)
  have hm : Go.IntKind.wrap .i64 (i - 1) = i - 1 := w64 (by omega) (by omega)
  refine ⟨?_, fun _ _ => by omega⟩
  unfold jJ
  obtain ⟨⟨x1, x2, x3, x4, x5⟩, hx⟩ : ∃ x, y6 l i = x := ⟨_, rfl⟩
  have hx' : l.getD i.toNat zb = (x1, x2, x3, x4, x5) := hx
  obtain ⟨⟨y1, y2, y3, y4, y5⟩, hy⟩ : ∃ y, y6 l (i - 1) = y := ⟨_, rfl⟩
  have hy' : l.getD (i - 1).toNat zb = (y1, y2, y3, y4, y5) := hy
  rw [hx', hy']
  have h3 : 0 ≤ i - 1 := by omega
  have h4 : i - 1 < (l.length : Int) := by omega
  have h5 : 0 < i := by omega
  have h6 : ¬ i = 0 := by omega
  simp only [Bool.cond_eq_ite, decide_eq_true_eq, h0, h1, if_true, hw, hm, hx, hy, h3, h4, h5, h6, y0f, Option.bind_some, decide_true, Bool.true_and, or_false]
  cases qV (y1, y2, y3, y4, y5) (x1, x2, x3, x4, x5) <;> rfl
 ·intro again i s hi
  unfold jJ
  simp only [Bool.cond_eq_ite, decide_eq_true_eq, if_neg hi]
theorem y7Z (l : List y9) (hl : l.length ≤ 1073741824) : KB l = some (Ql l) := by
 unfold KB y0T Ql
 refine (zP (step := wD _ _) (fun i => (l, i)) (fun _ a => !wm a) (some false) (some (!YA (W5 l) l 0 && decide ((l.length : Int) ≤ 60))) zb l (by omega) ?_ ?_).trans ?_
 ·intro again i h0 h1
  have hw : Go.IntKind.wrap .i64 (i + 1) = i + 1 := w64 (by omega) (by omega)
  unfold wD
  obtain ⟨⟨x1, x2, x3, x4, x5⟩, hx⟩ : ∃ x, y6 l i = x := ⟨_, rfl⟩
  have hx' : l.getD i.toNat zb = (x1, x2, x3, x4, x5) := hx
  rw [hx']
  simp only [Bool.cond_eq_ite, decide_eq_true_eq, h0, h1, if_true, hw, hx, y1T, Option.bind_some]
 ·intro again i hi
  unfold wD
  simp only [Bool.cond_eq_ite, decide_eq_true_eq, if_neg hi, y7Y l hl, Option.bind_some]
  cases YA (W5 l) l 0 <;> rfl
 ·cases YA (fun _ a => !wm a) l 0 <;> rfl
theorem y80 (l : List y9) (hl : l.length ≤ 1073741824) : Kz l = some (Ql l) := by
 unfold Kz y0R Ql
 refine (zP (step := ww _ _) (fun i => (l, l, (l.length : Int), i)) (fun i a => !wm a || W5 l i a) (some false) (some (decide ((l.length : Int) ≤ 60))) zb l (by omega) ?_ ?_).trans ?_
 ·intro again i h0 h1
  have hw : Go.IntKind.wrap .i64 (i + 1) = i + 1 := w64 (by omega) (by omega)
  have hm : Go.IntKind.wrap .i64 (i - 1) = i - 1 := w64 (by omega) (by omega)
  unfold ww W5
  obtain ⟨⟨x1, x2, x3, x4, x5⟩, hx⟩ : ∃ x, y6 l i = x := ⟨_, rfl⟩
  have hx' : l.getD i.toNat zb = (x1, x2, x3, x4, x5) := hx
  obtain ⟨⟨y1, y2, y3, y4, y5⟩, hy⟩ : ∃ y, y6 l (i - 1) = y := ⟨_, rfl⟩
  have hy' : l.getD (i - 1).toNat zb = (y1, y2, y3, y4, y5) := hy
  rw [hx', hy']
  simp only [Bool.cond_eq_ite, decide_eq_true_eq, h0, h1, if_true, hw, hm, hx, hy, y1U, y0g, Option.bind_some]
  cases wm (x1, x2, x3, x4, x5)
  ·rfl
  ·by_cases h5 : 0 < i
   ·have h3 : 0 ≤ i - 1 := by omega
    have h4 : i - 1 < (l.length : Int) := by omega
    simp only [gt_iff_lt, h5, h3, h4, if_true, decide_true]
    cases qV (y1, y2, y3, y4, y5) (x1, x2, x3, x4, x5) <;> rfl
   ·simp [h5]
 ·intro again i hi
  unfold ww
  simp only [Bool.cond_eq_ite, decide_eq_true_eq, if_neg hi]
 ·rw [yaF]
  cases YA (fun _ a => !wm a) l 0 <;> cases YA (W5 l) l 0 <;> rfl
def y1V (_ : Int) (a : yb) : Bool := !Ql a || ((List.length a : Int) == 0)
def y12 (s : Int) (a : yb) : Int := Go.IntKind.wrap .i64 (s + (List.length a : Int))
def YB (n : List yb) : Bool := !YA y1V n 0 && (decide ((n.length : Int) ≤ 3) && decide (n.foldl y12 0 ≤ 8))
theorem y81 (n : List yb) (hn : n.length ≤ 1073741824) : wE n = some (n.foldl y12 0) := by
 unfold wE Qd
 refine Y5 (step := jK _) (fun (i s : Int) => (s, i, n)) (fun s => some s) yV y12 n (by omega) (fun _ _ => True) ?_ ?_ 0 trivial
 ·intro again i s h0 h1 _
  have hw : Go.IntKind.wrap .i64 (i + 1) = i + 1 := w64 (by omega) (by omega)
  refine ⟨?_, trivial⟩
  unfold jK
  simp only [Bool.cond_eq_ite, decide_eq_true_eq, h0, h1, if_true, hw]
  rfl
 ·intro again i s hi
  unfold jK
  simp only [Bool.cond_eq_ite, decide_eq_true_eq, if_neg hi]
theorem VR (n : List yb) (hn : n.length ≤ 1073741824) (hm : ∀ s ∈ n, List.length s ≤ 1073741824) : zi n = some (YB n) := by
 unfold zi QU YB
 refine (zP (step := JC _ _) (fun i => (i, n)) y1V (some false) (some (decide ((n.length : Int) ≤ 3) && decide (n.foldl y12 0 ≤ 8))) yV n (by omega) ?_ ?_).trans ?_
 ·intro again i h0 h1
  have hw : Go.IntKind.wrap .i64 (i + 1) = i + 1 := w64 (by omega) (by omega)
  have e := y7Z (yo n i) (hm _ (yZ yV n i h0 h1))
  unfold JC y1V
  have hx : n.getD i.toNat yV = yo n i := rfl
  rw [hx]
  simp only [Bool.cond_eq_ite, decide_eq_true_eq, h0, h1, if_true, hw, e, Option.bind_some]
  cases Ql (yo n i)
  ·rfl
  ·rfl
 ·intro again i hi
  unfold JC
  simp only [Bool.cond_eq_ite, decide_eq_true_eq, if_neg hi, y81 n hn, Option.bind_some]
  by_cases h3 : (n.length : Int) ≤ 3 <;> simp [h3]
 ·cases YA y1V n 0 <;> rfl
theorem VS (n : List yb) (hn : n.length ≤ 1073741824) (hm : ∀ s ∈ n, List.length s ≤ 1073741824) : zB n = some (YB n) := by
 unfold zB QD YB
 refine (y3G (step := Jq _ _) (fun (i s : Int) => (s, n, (n.length : Int), i, n)) y1V y12 (some false) (fun s => some (decide ((n.length : Int) ≤ 3) && decide (s ≤ 8))) yV n (by omega) ?_ ?_ 0).trans ?_
 ·intro again i s h0 h1
  have hw : Go.IntKind.wrap .i64 (i + 1) = i + 1 := w64 (by omega) (by omega)
  have e := y80 (yo n i) (hm _ (yZ yV n i h0 h1))
  unfold Jq y1V y12
  have hx : n.getD i.toNat yV = yo n i := rfl
  rw [hx]
  simp only [Bool.cond_eq_ite, decide_eq_true_eq, h0, h1, if_true, hw, e, Option.bind_some]
  cases Ql (yo n i)
  ·rfl
  ·rfl
 ·intro again i s hi
  unfold Jq
  simp only [Bool.cond_eq_ite, decide_eq_true_eq, if_neg hi]
  by_cases h3 : (n.length : Int) ≤ 3 <;> simp [h3]
 ·cases YA y1V n 0 <;> rfl
end Go.Proofs.YthgdjjdigalckaaGreat.Pl
namespace Go.Proofs.YthgdjjdigalckaaGreat.Pl
open Go.Proofs.YthgdjjdigalckaaGreat.R Go.Proofs.YthgdjjdigalckaaGreat.XB
def small (is : List yd) (ns : List y0) (ags : List ya) (cs : List y7) (vs : List ye) : Prop :=
 is.length ≤ 1048576 ∧ ns.length ≤ 1048576 ∧ Wg Qr ns ≤ 1048576 ∧ ags.length ≤ 1048576 ∧ cs.length ≤ 1048576 ∧ vs.length ≤ 1048576
theorem Wi {ns : List y0} (h : Wg Qr ns ≤ 1048576) {n : List yb} (hn : n ∈ ns) : n.length ≤ 1048576 ∧ ∀ s ∈ n, List.length s ≤ 1048576 := by
 have h1 := (y0z KJ hn).1
 have h2 := W4 Kf n
 have h3 : Qr n = (List.length n : Int) + Wg Vo n := rfl
 refine ⟨by omega, fun s hs => ?_⟩
 have h4 := (y0z Kf hs).1
 have h5 : Vo s = (List.length s : Int) := rfl
 omega
end Go.Proofs.YthgdjjdigalckaaGreat.Pl
namespace Go.Proofs.YthgdjjdigalckaaGreat.Pl
open Go.Proofs.YthgdjjdigalckaaGreat.R Go.Proofs.YthgdjjdigalckaaGreat.XB
def yaH (a : y9) : Int := Go.IntKind.wrap .i64 (Go.IntKind.wrap .i64 ((64 : Int) * a.1) + a.2.1)
def ylY (q : List Int) (i : Int) (_ : Int) (a : y9) : Bool := decide (yaH a < q.getD i.toNat 0) || (decide (i + 1 < (q.length : Int)) && decide (yaH a ≥ q.getD (i + 1).toNat 0))
theorem TOk.node {t : List y0} (h : TOk t) {n : List yb} (hn : n ∈ t) : n.length ≤ 1048576 ∧ ∀ s ∈ n, List.length s ≤ 1048576 := Wi h.sum hn
theorem TOk.sumK {t : List y0} (h : TOk t) {n : List yb} (hn : n ∈ t) : Wg Vo n ≤ 1048576 := by
 have h1 := (y0z KJ hn).1
 have h2 := y1R n
 have h3 := h.sum
 omega
theorem ycN {R : Type} (k0 : (Int × Bool × Int × List yd × List y0 × List yb) → Option R) (k1 : (Int × Int × List yd × List y0 × List yb) → Option R) (i k : Int) (q : List Int) (t : List y0) (n : List yb) (hk0 : 0 ≤ k) (hk : k < (n.length : Int)) (hi0 : 0 ≤ i) (hi : i < (q.length : Int)) (hq : q.length ≤ 1048576) (hs : List.length (yo n k) ≤ 1048576) :
  vV k0 k1 (i, k, 0, q, t, n) = if YA (ylY q i) (yo n k) 0 = true then k0 (i, false, k, q, t, n) else k1 (i, k, q, t, n) := by
 unfold vV
 refine zP (step := JD k0 k1) (fun j => (i, k, j, q, t, n)) (ylY q i) _ _ zb (yo n k) (by omega) ?_ ?_
 ·intro again j h0 h1
  have hw : Go.IntKind.wrap .i64 (j + 1) = j + 1 := w64 (by omega) (by omega)
  have hwi : Go.IntKind.wrap .i64 (i + 1) = i + 1 := w64 (by omega) (by omega)
  unfold JD ylY w8 w7 yaH
  obtain ⟨⟨x1, x2, x3, x4, x5⟩, hx⟩ : ∃ x, y6 (yo n k) j = x := ⟨_, rfl⟩
  have hx' : (yo n k).getD j.toNat zb = (x1, x2, x3, x4, x5) := hx
  have e1 : q.getD i.toNat 0 = zu q i := rfl
  have e2 : q.getD (i + 1).toNat 0 = zu q (i + 1) := rfl
  rw [hx', e1, e2]
  have hi1 : 0 ≤ i + 1 := by omega
  simp only [Bool.cond_eq_ite, decide_eq_true_eq, h0, h1, hk0, hk, hi0, hi, hi1, if_true, hw, hwi, hx, Option.bind_some]
  by_cases h2 : Go.IntKind.wrap .i64 (Go.IntKind.wrap .i64 ((64 : Int) * x1) + x2) < zu q i
  ·simp [h2]
  ·by_cases h3 : i + 1 < (q.length : Int)
   ·simp [h2, h3]
   ·simp [h2, h3]
 ·intro again j hj
  unfold JD
  simp only [Bool.cond_eq_ite, decide_eq_true_eq, hk0, hk, if_true, if_neg hj]
def yes (q : List Int) (i : Int) (_ : Int) (s : yb) : Bool := YA (ylY q i) s 0
def yet (n : y0) : Bool := ((z3 n).length : Int) == 0
def yaI (q : List Int) (i : Int) (n : y0) : Bool := YB n && (!(decide (0 < i) && yet n) && !YA (yes q i) n 0)
theorem y54 (q : List Int) (t : List y0) (i : Int) (ht : TOk t) (hi0 : 0 ≤ i) (hi : i < (t.length : Int)) (hq : q.length = t.length) : WJ (q, t, i) = some (yaI q i (yf t i)) := by
 have hmem : yf t i ∈ t := yZ yz t i hi0 hi
 obtain ⟨hn, hs⟩ := ht.node hmem
 have hlen := ht.len
 have hq1 : i < (q.length : Int) := by omega
 have hq2 : q.length ≤ 1048576 := by omega
 have e1 := VR (yf t i) (by omega) (fun s hh => by have := hs s hh; omega)
 have e2 : yA (yf t i) = some (z3 (yf t i)) := Zc _ (by omega) (ht.sumK hmem)
 unfold WJ yaI yet
 simp only [hi0, hi, if_true, e1, Option.bind_some]
 generalize yf t i = n at *
 cases YB n
 ·rfl
 ·have key : vX (fun x10 => some x10) (fun x11 => some true) (i, 0, q, t, n) = some (!YA (yes q i) n 0) := by
   unfold vX
   refine (zP (step := JE _ _) (fun k => (i, k, q, t, n)) (yes q i) (some false) (some true) yV n (by omega) ?_ ?_).trans ?_
   ·intro again k h0 h1
    have hw : Go.IntKind.wrap .i64 (k + 1) = k + 1 := w64 (by omega) (by omega)
    have hsk : List.length (yo n k) ≤ 1048576 := hs _ (yZ yV n k h0 h1)
    unfold JE yes
    have hx : n.getD k.toNat yV = yo n k := rfl
    rw [hx]
    simp only [Bool.cond_eq_ite, decide_eq_true_eq, h1, if_true, ycN _ _ i k q t n h0 h1 hi0 hq1 hq2 hsk, hw]
   ·intro again k hk
    unfold JE
    simp only [Bool.cond_eq_ite, decide_eq_true_eq, if_neg hk]
   ·cases YA (yes q i) n 0 <;> rfl
  simp only [key, e2, Option.bind_some, Bool.not_true, cond_false, gt_iff_lt]
  by_cases h0 : 0 < i
  ·simp only [h0, decide_true, cond_true, Bool.true_and]
   cases (((z3 n).length : Int) == 0) <;> rfl
  ·simp only [h0, decide_false, cond_false, Bool.false_and]
   rfl
theorem ycO {R : Type} (k0 : (Int × Bool × List yb × Int × Int × List yd × List y0) → Option R) (k1 : (Int × List yb × Int × Int × List yd × List y0) → Option R) (i k m : Int) (q : List Int) (t : List y0) (n : List yb) (s : List y9) (hi0 : 0 ≤ i) (hi : i < (q.length : Int)) (hq : q.length ≤ 1048576) (hs : s.length ≤ 1048576) :
  K1 k0 k1 (i, n, m, k, s, (s.length : Int), 0, q, t) = if YA (ylY q i) s 0 = true then k0 (i, false, n, m, k, q, t) else k1 (i, n, m, k, q, t) := by
 unfold K1
 refine zP (step := ZR k0 k1) (fun j => (i, n, m, k, s, (s.length : Int), j, q, t)) (ylY q i) _ _ zb s (by omega) ?_ ?_
 ·intro again j h0 h1
  have hw : Go.IntKind.wrap .i64 (j + 1) = j + 1 := w64 (by omega) (by omega)
  have hwi : Go.IntKind.wrap .i64 (i + 1) = i + 1 := w64 (by omega) (by omega)
  unfold ZR ylY Zh yaH
  obtain ⟨⟨x1, x2, x3, x4, x5⟩, hx⟩ : ∃ x, y6 s j = x := ⟨_, rfl⟩
  have hx' : s.getD j.toNat zb = (x1, x2, x3, x4, x5) := hx
  have e1 : q.getD i.toNat 0 = zu q i := rfl
  have e2 : q.getD (i + 1).toNat 0 = zu q (i + 1) := rfl
  rw [hx', e1, e2]
  have hi1 : 0 ≤ i + 1 := by omega
  simp only [Bool.cond_eq_ite, decide_eq_true_eq, h0, h1, hi0, hi, hi1, if_true, hw, hwi, hx, Option.bind_some]
  by_cases h2 : Go.IntKind.wrap .i64 (Go.IntKind.wrap .i64 ((64 : Int) * x1) + x2) < zu q i
  ·simp [h2]
  ·by_cases h3 : i + 1 < (q.length : Int)
   ·simp [h2, h3]
   ·simp [h2, h3]
 ·intro again j hj
  unfold ZR
  simp only [Bool.cond_eq_ite, decide_eq_true_eq, if_neg hj]
theorem y34 (q : List Int) (t : List y0) (i : Int) (ht : TOk t) (hi0 : 0 ≤ i) (hi : i < (t.length : Int)) (hq : q.length = t.length) : Jr (q, t, i) = some (!YA (yes q i) (yf t i) 0) := by
 have hmem : yf t i ∈ t := yZ yz t i hi0 hi
 obtain ⟨hn, hs⟩ := ht.node hmem
 have hlen := ht.len
 have hq1 : i < (q.length : Int) := by omega
 have hq2 : q.length ≤ 1048576 := by omega
 unfold Jr qs
 simp only [hi0, hi, if_true]
 generalize yf t i = n at *
 refine (zP (step := ZS _ _) (fun k => (i, n, (n.length : Int), k, q, t)) (yes q i) (some false) (some true) yV n (by omega) ?_ ?_).trans ?_
 ·intro again k h0 h1
  have hw : Go.IntKind.wrap .i64 (k + 1) = k + 1 := w64 (by omega) (by omega)
  have hsk : List.length (yo n k) ≤ 1048576 := hs _ (yZ yV n k h0 h1)
  unfold ZS yes
  have hx : n.getD k.toNat yV = yo n k := rfl
  rw [hx]
  simp only [Bool.cond_eq_ite, decide_eq_true_eq, h0, h1, if_true, ycO _ _ i k (n.length : Int) q t n _ hi0 hq1 hq2 hsk, hw]
 ·intro again k hk
  unfold ZS
  simp only [Bool.cond_eq_ite, decide_eq_true_eq, if_neg hk]
 ·cases YA (yes q i) n 0 <;> rfl
def ylZ (q : List Int) (i : Int) : Bool := decide (0 < i) && decide (q.getD (i - 1).toNat 0 ≥ q.getD i.toNat 0)
def y0j (q : List Int) (i : Int) (n : y0) : Bool := ylZ q i || !yaI q i n
def y4o (s : Int) (n : y0) : Int := Go.IntKind.wrap .i64 (s + ((z3 n).length : Int))
def Z2 (q : List Int) (t : List y0) : Bool :=
 inR (t.length : Int) 1 20 && (decide (q.length = t.length) && ((q.getD 0 0 == 0) && (!YA (y0j q) t 0 && decide (((zF t).length : Int) ≤ 60))))
theorem yeu : ∀ (t : List y0) (s : List y9), (s.length : Int) + Wg Qr t ≤ 1048576 → t.foldl y4o (s.length : Int) = ((t.foldl KW s).length : Int)
 | [], _, _ => rfl
 | n :: t, s, h => by
  rw [Yb] at h
  have h1 := Vg n
  have h2 := y1R n
  have h3 := W4 KJ t
  have h4 : (KW s n).length = s.length + (z3 n).length := List.length_append
  rw [List.foldl_cons, List.foldl_cons, show y4o (s.length : Int) n = ((KW s n).length : Int) by
   unfold y4o
   rw [h4, w64 (by omega) (by omega)]
   omega]
  exact yeu t (KW s n) (by rw [h4]; omega)
theorem VT (q : List Int) (t : List y0) (ht : TOk t) : Yl (q, t) = some (Z2 q t) := by
 have hlen := ht.len
 unfold Yl Z2
 simp only [Yz, Option.bind_some]
 cases h1 : inR (t.length : Int) 1 20
 ·rfl
 by_cases hq : q.length = t.length
 ·have hq' : ((q.length : Int) != (t.length : Int)) = false := by simp [hq]
  have hpos : 0 < (q.length : Int) := by
   have := (Z6.1 h1).1
   omega
  have hd : decide (q.length = t.length) = true := by simp [hq]
  simp only [hq', hd, Bool.not_true, cond_false, cond_true, Option.bind_some, Bool.true_and]
  rw [if_pos (Int.le_refl _), if_pos (by omega)]
  have e0 : zu q 0 = q.getD 0 0 := rfl
  rw [e0]
  try simp only [Option.bind_some]
  by_cases hz : q.getD 0 0 = 0
  ·have hz1 : (q.getD 0 0 != 0) = false := by rw [hz]; rfl
   have hz2 : (q.getD 0 0 == 0) = true := by rw [hz]; rfl
   rw [hz1, hz2]
   simp only [cond_false, Bool.true_and]
   unfold QV
   refine (zP (step := JF _ _) (fun i => (i, q, t)) (y0j q) (some false) (some (decide (((zF t).length : Int) ≤ 60))) yz t (by omega) ?_ ?_).trans ?_
   ·intro again i h0 h1
    have hw : Go.IntKind.wrap .i64 (i + 1) = i + 1 := w64 (by omega) (by omega)
    have hm : Go.IntKind.wrap .i64 (i - 1) = i - 1 := w64 (by omega) (by omega)
    have e := y54 q t i ht h0 h1 hq
    unfold JF y0j ylZ
    have hx : t.getD i.toNat yz = yf t i := rfl
    have e1 : q.getD i.toNat 0 = zu q i := rfl
    have e2 : q.getD (i - 1).toNat 0 = zu q (i - 1) := rfl
    rw [hx, e1, e2]
    simp only [Bool.cond_eq_ite, decide_eq_true_eq, h0, h1, if_true, hw, hm, e, gt_iff_lt]
    by_cases h5 : 0 < i
    ·rw [if_pos h5, if_pos (by omega), if_pos (by omega), if_pos (by omega)]
     simp only [h5, decide_true, Option.bind_some, Bool.true_and]
     cases decide (zu q (i - 1) ≥ zu q i) <;> cases yaI q i (yf t i) <;> rfl
    ·rw [if_neg h5]
     simp only [h5, decide_false, Option.bind_some, Bool.false_and]
     cases yaI q i (yf t i) <;> rfl
   ·intro again i hi
    have e : yL (q, t) = some (zF t) := Yy q t (by omega) ht.nodes ht.sum
    unfold JF
    simp only [Bool.cond_eq_ite, decide_eq_true_eq, if_neg hi, e, Option.bind_some]
   ·cases YA (y0j q) t 0 <;> rfl
  ·have hz1 : (q.getD 0 0 != 0) = true := by simpa using hz
   have hz2 : (q.getD 0 0 == 0) = false := by simpa using hz
   rw [hz1, hz2]
   rfl
 ·have hq' : ((q.length : Int) != (t.length : Int)) = true := by
   simp only [bne_iff_ne, ne_eq]
   omega
  have hd : decide (q.length = t.length) = false := by simp [hq]
  simp only [hq', hd, Bool.not_true, cond_false, cond_true, Option.bind_some, Bool.false_and, Bool.and_false]
theorem VU (q : List Int) (t : List y0) (ht : TOk t) : Yi (q, t) = some (Z2 q t) := by
 have hlen := ht.len
 unfold Yi Z2
 simp only [YJ, Option.bind_some]
 cases h1 : inR (t.length : Int) 1 20
 ·rfl
 by_cases hq : q.length = t.length
 ·have hq' : ((q.length : Int) != (t.length : Int)) = false := by simp [hq]
  have hpos : 0 < (q.length : Int) := by
   have := (Z6.1 h1).1
   omega
  have hd : decide (q.length = t.length) = true := by simp [hq]
  simp only [hq', hd, Bool.not_true, cond_false, cond_true, Option.bind_some, Bool.true_and]
  rw [if_pos (Int.le_refl _), if_pos (by omega)]
  have e0 : zu q 0 = q.getD 0 0 := rfl
  rw [e0]
  try simp only [Option.bind_some]
  by_cases hz : q.getD 0 0 = 0
  ·have hz1 : (q.getD 0 0 != 0) = false := by rw [hz]; rfl
   have hz2 : (q.getD 0 0 == 0) = true := by rw [hz]; rfl
   rw [hz1, hz2]
   simp only [cond_false, Bool.true_and]
   unfold QE
   refine (y3G (step := Js _ _) (fun (i s : Int) => (s, t, (t.length : Int), i, q, t)) (y0j q) y4o (some false) (fun s => some (decide (s ≤ 60))) yz t (by omega) ?_ ?_ 0).trans ?_
   ·intro again i s h0 h1
    have hmem : yf t i ∈ t := yZ yz t i h0 h1
    obtain ⟨hn, hss⟩ := ht.node hmem
    have hw : Go.IntKind.wrap .i64 (i + 1) = i + 1 := w64 (by omega) (by omega)
    have hm : Go.IntKind.wrap .i64 (i - 1) = i - 1 := w64 (by omega) (by omega)
    have e3 := VS (yf t i) (by omega) (fun s hh => by have := hss s hh; omega)
    have e4 := y34 q t i ht h0 h1 hq
    have e5 : yK (yf t i) = some (z3 (yf t i)) := jV _ (by omega) (ht.sumK hmem)
    unfold Js y0j ylZ yaI yet y4o
    have hx : t.getD i.toNat yz = yf t i := rfl
    have e1 : q.getD i.toNat 0 = zu q i := rfl
    have e2 : q.getD (i - 1).toNat 0 = zu q (i - 1) := rfl
    rw [hx, e1, e2]
    simp only [Bool.cond_eq_ite, decide_eq_true_eq, h0, h1, if_true, hw, hm, e3, e4, e5, gt_iff_lt, Option.bind_some]
    by_cases h5 : 0 < i
    ·rw [if_pos h5, if_pos (by omega), if_pos (by omega), if_pos (by omega)]
     simp only [h5, decide_true, Option.bind_some, Bool.true_and, if_true]
     cases decide (zu q (i - 1) ≥ zu q i) <;> cases YB (yf t i) <;> cases YA (yes q i) (yf t i) 0 <;> cases (((z3 (yf t i)).length : Int) == 0) <;> rfl
    ·rw [if_neg h5]
     simp only [h5, decide_false, Option.bind_some, Bool.false_and, if_false]
     cases YB (yf t i) <;> cases YA (yes q i) (yf t i) 0 <;> rfl
   ·intro again i s hi
    unfold Js
    simp only [Bool.cond_eq_ite, decide_eq_true_eq, if_neg hi]
   ·have := yeu t [] (by have := ht.sum; simpa using this)
    simp only [List.length_nil] at this
    rw [show ((0 : Nat) : Int) = 0 from rfl] at this
    rw [this]
    unfold zF
    cases YA (y0j q) t 0 <;> rfl
  ·have hz1 : (q.getD 0 0 != 0) = true := by simpa using hz
   have hz2 : (q.getD 0 0 == 0) = false := by simpa using hz
   rw [hz1, hz2]
   rfl
 ·have hq' : ((q.length : Int) != (t.length : Int)) = true := by
   simp only [bne_iff_ne, ne_eq]
   omega
  have hd : decide (q.length = t.length) = false := by simp [hq]
  simp only [hq', hd, Bool.not_true, cond_false, cond_true, Option.bind_some, Bool.false_and, Bool.and_false]
end Go.Proofs.YthgdjjdigalckaaGreat.Pl
namespace Go.Proofs.YthgdjjdigalckaaGreat.Pl
open Go.Proofs.YthgdjjdigalckaaGreat.R Go.Proofs.YthgdjjdigalckaaGreat.XB
def isW (n : Int) : Bool := inR n 0 65535
theorem Vh (x : Int) : zj x = some (isW x) := by unfold zj; rw [Yz]; rfl
theorem y4p (x : Int) : jq x = some (isW x) := by unfold jq; rw [YJ]; rfl
def y82 (c : Int) : Bool := inR c 97 122 || inR c 48 57
def qX (l : List UInt8) : Bool := l.all fun c => y82 (c.toNat : Int)
def Z3 (s : ByteArray) : Bool := qX s.data.toList && inR s.size 1 6
theorem ybI (c : UInt8) : Go.IntKind.wrap .i64 (c.toNat : Int) = c.toNat := by
 have := c.toNat_lt
 exact w64 (by omega) (by omega)
theorem ygK (s : ByteArray) (i : Nat) (h : i < s.size) : ByteArray.get s i h = s.data.toList[i]'(by rw [Array.length_toList]; exact h) := by
 rw [Array.getElem_toList]
 rfl
theorem y96 (s : ByteArray) (i : Nat) (h : i < s.size) : s.data.toList.drop i = ByteArray.get s i h :: s.data.toList.drop (i + 1) := by
 rw [ygK, ← List.drop_eq_getElem_cons]
theorem J5 (s : ByteArray) (hs : s.size ≤ maxLen) : Ym s = some (Z3 s) := by
 have hm : (s.size : Int) ≤ 9223372036854775807 := by simp only [maxLen] at hs; omega
 unfold Ym QX
 rw [YH (fun t : ByteArray × Int => t.1.size - t.2.toNat) (fun t => t.1 = s ∧ 0 ≤ t.2 ∧ t.2 ≤ s.size) (fun t => if qX (t.1.data.toList.drop t.2.toNat) then some (inR s.size 1 6) else some false) ?_ (s, 0) ⟨rfl, by simp, by simp⟩ (by simp only [maxLen] at hs; simp; omega)]
 ·unfold Z3
  cases h : qX s.data.toList <;> simp [h]
 ·rintro again ⟨s', i⟩ ⟨rfl, h0, h1⟩ hag
  simp only at h0 h1 hs hm ⊢
  unfold V1
  simp only [Bool.cond_eq_ite, decide_eq_true_eq]
  by_cases hi : i < (s'.size : Int)
  ·have hn : i.toNat < s'.size := by omega
   rw [if_pos hi, if_pos h0, dif_pos hn]
   simp only [Yz, Option.bind_some, if_pos h0, dif_pos hn, ybI]
   rw [y96 s' i.toNat hn]
   have hw : Go.IntKind.wrap .i64 (i + 1) = i + 1 := w64 (by omega) (by omega)
   have e1 : (i + 1).toNat = i.toNat + 1 := by omega
   have hag' := hag (s', i + 1) ⟨rfl, by simp only; omega, by simp only; omega⟩ (by simp only; omega)
   simp only [qX, List.all_cons, y82] at hag' ⊢
   rw [hw, hag', e1]
   obtain ⟨c, hc⟩ : ∃ c, ByteArray.get s' i.toNat hn = c := ⟨_, rfl⟩
   simp only [hc]
   cases inR (c.toNat : Int) 97 122 <;> cases inR (c.toNat : Int) 48 57 <;> simp
  ·rw [if_neg hi, List.drop_of_length_le (by rw [Array.length_toList]; show s'.size ≤ _; omega)]
   simp [qX, Yz]
theorem J6 (s : ByteArray) (hs : s.size ≤ maxLen) : Yj s = some (Z3 s) := by
 have hm : (s.size : Int) ≤ 9223372036854775807 := by simp only [maxLen] at hs; omega
 unfold Yj QH
 rw [YH (fun t : ByteArray × Int => t.1.size - t.2.toNat) (fun t => t.1 = s ∧ 0 ≤ t.2 ∧ t.2 ≤ s.size) (fun t => if qX (t.1.data.toList.drop t.2.toNat) then some (inR s.size 1 6) else some false) ?_ (s, 0) ⟨rfl, by simp, by simp⟩ (by simp only [maxLen] at hs; simp; omega)]
 ·unfold Z3
  cases h : qX s.data.toList <;> simp [h]
 ·rintro again ⟨s', i⟩ ⟨rfl, h0, h1⟩ hag
  simp only at h0 h1 hs hm ⊢
  unfold vC
  simp only [Bool.cond_eq_ite, decide_eq_true_eq]
  by_cases hi : i < (s'.size : Int)
  ·have hn : i.toNat < s'.size := by omega
   rw [if_pos hi, if_pos h0, dif_pos hn]
   simp only [YJ, Option.bind_some, if_pos h0, dif_pos hn, ybI]
   rw [y96 s' i.toNat hn]
   have hw : Go.IntKind.wrap .i64 (i + 1) = i + 1 := w64 (by omega) (by omega)
   have e1 : (i + 1).toNat = i.toNat + 1 := by omega
   have hag' := hag (s', i + 1) ⟨rfl, by simp only; omega, by simp only; omega⟩ (by simp only; omega)
   simp only [qX, List.all_cons, y82] at hag' ⊢
   rw [hw, hag', e1]
   obtain ⟨c, hc⟩ : ∃ c, ByteArray.get s' i.toNat hn = c := ⟨_, rfl⟩
   simp only [hc]
   cases inR (c.toNat : Int) 97 122 <;> cases inR (c.toNat : Int) 48 57 <;> simp
  ·rw [if_neg hi, List.drop_of_length_le (by rw [Array.length_toList]; show s'.size ≤ _; omega)]
   simp [qX, YJ]
end Go.Proofs.YthgdjjdigalckaaGreat.Pl
namespace Go.Proofs.YthgdjjdigalckaaGreat.Pl
open Go.Proofs.YthgdjjdigalckaaGreat.R Go.Proofs.YthgdjjdigalckaaGreat.XB
def yev (l : List ya) (i : Int) : List ya := List.drop (Int.toNat (0 : Int)) (List.take (Int.toNat i) l)
def y97 (l : List ya) (i : Int) (a : ya) : Bool := !inR a.1 1 60 || ((decide (0 < i) && decide ((l.getD (i - 1).toNat YT).1 ≥ a.1)) || (a.2 != 0 && decide (zV (yev l i) a.2 < 0)))
def JV (l : List ya) : Bool := !YA (y97 l) l 0 && decide ((l.length : Int) ≤ 16)
theorem ybJ (l : List ya) (i : Int) : (yev l i).length ≤ l.length := by
 unfold yev
 simp only [List.length_drop, List.length_take]
 omega
theorem wQ (l : List ya) (hl : l.length ≤ 1048576) : YN l = some (JV l) := by
 unfold YN QW JV
 refine (zP (step := JG _ _) (fun i => (l, i)) (y97 l) (some false) (some (decide ((l.length : Int) ≤ 16))) YT l (by omega) ?_ ?_).trans ?_
 ·intro again i h0 h1
  have hw : Go.IntKind.wrap .i64 (i + 1) = i + 1 := w64 (by omega) (by omega)
  have hm : Go.IntKind.wrap .i64 (i - 1) = i - 1 := w64 (by omega) (by omega)
  unfold JG y97
  obtain ⟨⟨x1, x2⟩, hx⟩ : ∃ x, yD l i = x := ⟨_, rfl⟩
  have hx' : l.getD i.toNat YT = (x1, x2) := hx
  have hy : l.getD (i - 1).toNat YT = yD l (i - 1) := rfl
  have e : zy (List.drop (Int.toNat (0 : Int)) (List.take (Int.toNat i) l), x2) = some (zV (yev l i) x2) := Yo (yev l i) x2 (by have := ybJ l i; omega)
  rw [hx', hy]
  have h2 : i ≤ (l.length : Int) := by omega
  simp only [Bool.cond_eq_ite, decide_eq_true_eq, h0, h1, h2, if_true, hw, hm, hx, Yz, e, Option.bind_some, Int.le_refl, gt_iff_lt]
  cases inR x1 1 60
  ·rfl
  ·by_cases h5 : 0 < i
   ·have h3 : 0 ≤ i - 1 := by omega
    have h4 : i - 1 < (l.length : Int) := by omega
    simp only [h5, h3, h4, if_true, decide_true]
    cases decide ((yD l (i - 1)).1 ≥ x1) <;> cases (x2 != 0) <;> cases decide (zV (yev l i) x2 < 0) <;> rfl
   ·simp only [h5, if_false, decide_false]
    cases (x2 != 0) <;> cases decide (zV (yev l i) x2 < 0) <;> rfl
 ·intro again i hi
  unfold JG
  simp only [Bool.cond_eq_ite, decide_eq_true_eq, if_neg hi]
 ·cases YA (y97 l) l 0 <;> rfl
theorem y13 (l : List ya) (hl : l.length ≤ 1048576) : jp l = some (JV l) := by
 unfold jp QG JV
 refine (zP (step := Jt _ _) (fun i => (l, l, (l.length : Int), i)) (y97 l) (some false) (some (decide ((l.length : Int) ≤ 16))) YT l (by omega) ?_ ?_).trans ?_
 ·intro again i h0 h1
  have hw : Go.IntKind.wrap .i64 (i + 1) = i + 1 := w64 (by omega) (by omega)
  have hm : Go.IntKind.wrap .i64 (i - 1) = i - 1 := w64 (by omega) (by omega)
  unfold Jt y97
  obtain ⟨⟨x1, x2⟩, hx⟩ : ∃ x, yD l i = x := ⟨_, rfl⟩
  have hx' : l.getD i.toNat YT = (x1, x2) := hx
  have hy : l.getD (i - 1).toNat YT = yD l (i - 1) := rfl
  have e : Yq (List.drop (Int.toNat (0 : Int)) (List.take (Int.toNat i) l), x2) = some (zV (yev l i) x2) := kF (yev l i) x2 (by have := ybJ l i; omega)
  rw [hx', hy]
  have h2 : i ≤ (l.length : Int) := by omega
  simp only [Bool.cond_eq_ite, decide_eq_true_eq, h0, h1, h2, if_true, hw, hm, hx, YJ, e, Option.bind_some, Int.le_refl, gt_iff_lt]
  cases inR x1 1 60
  ·rfl
  ·by_cases h5 : 0 < i
   ·have h3 : 0 ≤ i - 1 := by omega
    have h4 : i - 1 < (l.length : Int) := by omega
    simp only [h5, h3, h4, if_true, decide_true]
    cases decide ((yD l (i - 1)).1 ≥ x1) <;> cases (x2 != 0) <;> cases decide (zV (yev l i) x2 < 0) <;> rfl
   ·simp only [h5, if_false, decide_false]
    cases (x2 != 0) <;> cases decide (zV (yev l i) x2 < 0) <;> rfl
 ·intro again i hi
  unfold Jt
  simp only [Bool.cond_eq_ite, decide_eq_true_eq, if_neg hi]
 ·cases YA (y97 l) l 0 <;> rfl
def y0k (id : Int) (s : List Int) (a : ya) : List Int := if (a.2 == id && id != 0) = true then s ++ [a.1] else s
def Yx (l : List ya) (id : Int) : List Int := l.foldl (y0k id) []
theorem y5P (id : Int) (s : List Int) (a : ya) : (y0k id s a).length ≤ s.length + 1 := by
 unfold y0k
 split <;> simp
theorem Kt (l : List ya) (id : Int) (hl : l.length ≤ 1048576) : ju (l, id) = some (Yx l id) := by
 unfold ju QY Yx
 refine Y5 (step := JH _) (fun (i : Int) (s : List Int) => (l, id, i, s)) (fun s => some s) YT (y0k id) l (by omega) (fun i s => s.length ≤ i) ?_ ?_ [] (by simp)
 ·intro again i s h0 h1 hI
  have hw : Go.IntKind.wrap .i64 (i + 1) = i + 1 := w64 (by omega) (by omega)
  have hs := y5P id s (l.getD i.toNat YT)
  refine ⟨?_, by omega⟩
  have c1 : (s.length + 1) * 8 < 140737488355328 := by omega
  clear hs
  unfold JH y0k
  obtain ⟨⟨x1, x2⟩, hx⟩ : ∃ x, yD l i = x := ⟨_, rfl⟩
  have hx' : l.getD i.toNat YT = (x1, x2) := hx
  rw [hx']
  simp only [Bool.cond_eq_ite, decide_eq_true_eq, h0, h1, if_true, hw, hx, List.length_cons, List.length_nil, Nat.zero_add, c1]
  cases (x2 == id) <;> cases (id != 0) <;> rfl
 ·intro again i s hi
  unfold JH
  simp only [Bool.cond_eq_ite, decide_eq_true_eq, if_neg hi]
theorem yew (l : List ya) : Yx l 0 = [] := by
 have : ∀ (l : List ya) (s : List Int), l.foldl (y0k 0) s = s := by
  intro l
  induction l with
  | nil => intro s; rfl
  | cons a l ih =>
   intro s
   rw [List.foldl_cons, ih]
   unfold y0k
   simp
 exact this l []
theorem y55 (l : List ya) (id : Int) (hl : l.length ≤ 1048576) : Wt (l, id) = some (Yx l id) := by
 unfold Wt
 by_cases hid : id = 0
 ·subst hid
  rw [yew]
  rfl
 ·have hid1 : (id == 0) = false := by simpa using hid
  have hid2 : (id != 0) = true := by simpa using hid
  simp only [hid1, cond_false]
  unfold QI Yx
  refine Y5 (step := Ju _) (fun (i : Int) (s : List Int) => (id, l, (l.length : Int), i, s)) (fun s => some s) YT (y0k id) l (by omega) (fun i s => s.length ≤ i) ?_ ?_ [] (by simp)
  ·intro again i s h0 h1 hI
   have hw : Go.IntKind.wrap .i64 (i + 1) = i + 1 := w64 (by omega) (by omega)
   have hs := y5P id s (l.getD i.toNat YT)
   refine ⟨?_, by omega⟩
   have c1 : (s.length + 1) * 8 < 140737488355328 := by omega
   clear hs
   unfold Ju y0k
   obtain ⟨⟨x1, x2⟩, hx⟩ : ∃ x, yD l i = x := ⟨_, rfl⟩
   have hx' : l.getD i.toNat YT = (x1, x2) := hx
   rw [hx']
   simp only [Bool.cond_eq_ite, decide_eq_true_eq, h0, h1, if_true, hw, hx, List.length_cons, List.length_nil, Nat.zero_add, c1, hid2]
   cases (x2 == id) <;> rfl
  ·intro again i s hi
   unfold Ju
   simp only [Bool.cond_eq_ite, decide_eq_true_eq, if_neg hi]
def yaJ (_ : Int) (a : y7) : Bool := !inR a.1 0 999 || (!isW a.2.2 || (!a.2.1 && a.2.2 != 0))
def zT (l : List y7) : Bool := !YA yaJ l 0 && ((l.length : Int) == 24)
theorem JW (l : List y7) (hl : l.length ≤ 1048576) : ZB l = some (zT l) := by
 unfold ZB Qe zT
 refine (zP (step := jL _ _) (fun i => (l, i)) yaJ (some false) (some ((l.length : Int) == 24)) zW l (by omega) ?_ ?_).trans ?_
 ·intro again i h0 h1
  have hw : Go.IntKind.wrap .i64 (i + 1) = i + 1 := w64 (by omega) (by omega)
  unfold jL yaJ
  obtain ⟨⟨x1, x2, x3⟩, hx⟩ : ∃ x, yl l i = x := ⟨_, rfl⟩
  have hx' : l.getD i.toNat zW = (x1, x2, x3) := hx
  rw [hx']
  simp only [Bool.cond_eq_ite, decide_eq_true_eq, h0, h1, if_true, hw, hx, Yz, Vh, Option.bind_some]
  cases inR x1 0 999 <;> cases isW x3 <;> cases x2 <;> cases (x3 != 0) <;> rfl
 ·intro again i hi
  unfold jL
  simp only [Bool.cond_eq_ite, decide_eq_true_eq, if_neg hi]
 ·cases YA yaJ l 0 <;> rfl
theorem Vi (l : List y7) (hl : l.length ≤ 1048576) : Zz l = some (zT l) := by
 unfold Zz Q9 zT
 refine (zP (step := jG _ _) (fun i => (l, l, (l.length : Int), i)) yaJ (some false) (some ((l.length : Int) == 24)) zW l (by omega) ?_ ?_).trans ?_
 ·intro again i h0 h1
  have hw : Go.IntKind.wrap .i64 (i + 1) = i + 1 := w64 (by omega) (by omega)
  unfold jG yaJ
  obtain ⟨⟨x1, x2, x3⟩, hx⟩ : ∃ x, yl l i = x := ⟨_, rfl⟩
  have hx' : l.getD i.toNat zW = (x1, x2, x3) := hx
  rw [hx']
  simp only [Bool.cond_eq_ite, decide_eq_true_eq, h0, h1, if_true, hw, hx, YJ, y4p, Option.bind_some]
  cases inR x1 0 999 <;> cases isW x3 <;> cases x2 <;> cases (x3 != 0) <;> rfl
 ·intro again i hi
  unfold jG
  simp only [Bool.cond_eq_ite, decide_eq_true_eq, if_neg hi]
 ·cases YA yaJ l 0 <;> rfl
def y4q (s : Int) (a : y7) : Int := if a.2.1 = true then Go.IntKind.wrap .i64 (s + 1) else s
def y98 (l : List y7) : Int := l.foldl y4q 0
theorem y99 (l : List y7) (hl : l.length ≤ 1048576) : jO l = some (y98 l) := by
 unfold jO VC y98
 refine Y5 (step := Zp _) (fun (i s : Int) => (l, s, i)) (fun s => some s) zW y4q l (by omega) (fun _ _ => True) ?_ ?_ 0 trivial
 ·intro again i s h0 h1 _
  have hw : Go.IntKind.wrap .i64 (i + 1) = i + 1 := w64 (by omega) (by omega)
  refine ⟨?_, trivial⟩
  unfold Zp y4q
  obtain ⟨⟨x1, x2, x3⟩, hx⟩ : ∃ x, yl l i = x := ⟨_, rfl⟩
  have hx' : l.getD i.toNat zW = (x1, x2, x3) := hx
  rw [hx']
  simp only [Bool.cond_eq_ite, decide_eq_true_eq, h0, h1, if_true, hw, hx]
  cases x2 <;> rfl
 ·intro again i s hi
  unfold Zp
  simp only [Bool.cond_eq_ite, decide_eq_true_eq, if_neg hi]
theorem y9a (l : List y7) (hl : l.length ≤ 1048576) : jH l = some (y98 l) := by
 unfold jH Vy y98
 refine Y5 (step := Zi _) (fun (i s : Int) => (s, l, (l.length : Int), i)) (fun s => some s) zW y4q l (by omega) (fun _ _ => True) ?_ ?_ 0 trivial
 ·intro again i s h0 h1 _
  have hw : Go.IntKind.wrap .i64 (i + 1) = i + 1 := w64 (by omega) (by omega)
  refine ⟨?_, trivial⟩
  unfold Zi y4q
  obtain ⟨⟨x1, x2, x3⟩, hx⟩ : ∃ x, yl l i = x := ⟨_, rfl⟩
  have hx' : l.getD i.toNat zW = (x1, x2, x3) := hx
  rw [hx']
  simp only [Bool.cond_eq_ite, decide_eq_true_eq, h0, h1, if_true, hw, hx]
  cases x2 <;> rfl
 ·intro again i s hi
  unfold Zi
  simp only [Bool.cond_eq_ite, decide_eq_true_eq, if_neg hi]
def Vj (l : List y7) (i gen : Int) : Int × Bool :=
 if inR i 0 ((l.length : Int) - 1) && ((l.getD i.toNat zW).2.1 && ((l.getD i.toNat zW).1 == gen)) then ((l.getD i.toNat zW).2.2, true) else (0, false)
theorem VV (l : List y7) (i gen : Int) (hl : l.length ≤ 1048576) : jv (l, i, gen) = some (Vj l i gen) := by
 unfold jv Vj
 have hm : Go.IntKind.wrap .i64 ((l.length : Int) - 1) = (l.length : Int) - 1 := w64 (by omega) (by omega)
 obtain ⟨⟨x1, x2, x3⟩, hx⟩ : ∃ x, yl l i = x := ⟨_, rfl⟩
 have hx' : l.getD i.toNat zW = (x1, x2, x3) := hx
 rw [hx']
 simp only [hm, hx, Yz, Option.bind_some]
 by_cases hr : inR i 0 ((l.length : Int) - 1) = true
 ·obtain ⟨h0, h1⟩ := Z6.1 hr
  rw [hr, if_pos h0, if_pos (by omega), if_pos h0, if_pos (by omega), if_pos h0, if_pos (by omega)]
  by_cases hg : x1 = gen
  ·have g1 : (x1 != gen) = false := by simp [hg]
   have g2 : (x1 == gen) = true := by simp [hg]
   rw [g1, g2]
   cases x2 <;> rfl
  ·have g1 : (x1 != gen) = true := by simpa using hg
   have g2 : (x1 == gen) = false := by simpa using hg
   rw [g1, g2]
   cases x2 <;> rfl
 ·have : inR i 0 ((l.length : Int) - 1) = false := by simpa using hr
  rw [this]
  rfl
theorem y14 (l : List y7) (i gen : Int) (hl : l.length ≤ 1048576) : w4 (l, i, gen) = some (Vj l i gen) := by
 rw [← VV l i gen hl]
 unfold w4 jv
 simp only [YJ, Yz]
end Go.Proofs.YthgdjjdigalckaaGreat.Pl
namespace Go.Proofs.YthgdjjdigalckaaGreat.Pl
open Go.Proofs.YthgdjjdigalckaaGreat.R Go.Proofs.YthgdjjdigalckaaGreat.XB
theorem ybK {A : Type} (p : A → Bool) : ∀ (l : List A) (i j : Int), 0 ≤ i → decide (0 ≤ ZE p l i) = YA (fun _ a => p a) l j
 | [], i, j, _ => rfl
 | a :: l, i, j, h => by
  rw [ZE, YA, ← ybK p l (i + 1) (j + 1) (by omega)]
  cases p a with
  | true => simp [h]
  | false => rfl
theorem y9b {A : Type} (da : A) (l : List A) (i j : Int) (h0 : 0 ≤ j) (h : j < i) : (l.take i.toNat).getD j.toNat da = l.getD j.toNat da := by
 rw [List.getD_eq_getElem?_getD, List.getD_eq_getElem?_getD, List.getElem?_take, if_pos (by omega)]
theorem ybL {A : Type} (l : List A) (i : Int) (h0 : 0 ≤ i) (h : i ≤ (l.length : Int)) : ((l.take i.toNat).length : Int) = i := by
 rw [List.length_take]
 omega
def kG (age : Int) (_ : Int) (u : ye) : Bool := u.2.1 == age
def yex (vs : List ye) (l : List ya) (i : Int) (v : ye) : Bool :=
 !Z3 v.1 || (!inR v.2.2.1 1 12 || (decide (zV l v.2.1 < 0) || (decide (((Yx l v.2.1).length : Int) > 0) || ((decide (0 < i) && !Go.Op.bytesLess (ByteArray.toList (vs.getD (i - 1).toNat zX).1) (ByteArray.toList v.1)) || YA (kG v.2.1) (vs.take i.toNat) 0))))
def kH (vs : List ye) (l : List ya) : Bool := !YA (yex vs l) vs 0 && decide ((vs.length : Int) ≤ 6)
theorem y4r {R : Type} (k0 : (Bool × Int × List yd × List y0 × List ya × List y7 × List ye × Int) → Option R) (k1 : (Int × List yd × List y0 × List ya × List y7 × List ye × Int) → Option R) (i : Int) (q : List Int) (t : List y0) (l : List ya) (cs : List y7) (vs : List ye) (z : Int) (v1 : ByteArray) (v2 v3 : Int) (v4 : Bool) (h0 : 0 ≤ i) (h1 : i ≤ (vs.length : Int)) (hv : vs.length ≤ 1048576) :
  KT k0 k1 (i, 0, q, t, l, cs, vs, z, v1, v2, v3, v4) = if YA (kG v2) (vs.take i.toNat) 0 = true then k0 (false, i, q, t, l, cs, vs, z) else k1 (i, q, t, l, cs, vs, z) := by
 unfold KT
 have hlen := ybL vs i h0 h1
 refine zP (step := jM k0 k1) (fun k => (i, k, q, t, l, cs, vs, z, v1, v2, v3, v4)) (kG v2) _ _ zX (vs.take i.toNat) (by omega) ?_ ?_
 ·intro again k hk0 hk1
  rw [hlen] at hk1
  have hw : Go.IntKind.wrap .i64 (k + 1) = k + 1 := w64 (by omega) (by omega)
  have hk2 : k < (vs.length : Int) := by omega
  unfold jM kG
  rw [y9b zX vs i k hk0 hk1]
  have hx : vs.getD k.toNat zX = y8 vs k := rfl
  rw [hx]
  simp only [Bool.cond_eq_ite, decide_eq_true_eq, hk0, hk1, hk2, if_true, hw]
 ·intro again k hk
  rw [hlen] at hk
  unfold jM
  simp only [Bool.cond_eq_ite, decide_eq_true_eq, if_neg hk]
theorem y9c (q : List Int) (t : List y0) (l : List ya) (cs : List y7) (vs : List ye) (z : Int) (hl : l.length ≤ 1048576) (hv : vs.length ≤ 1048576) (hvn : ∀ v ∈ vs, ByteArray.size v.1 ≤ maxLen) : wG (q, t, l, cs, vs, z) = some (kH vs l) := by
 unfold wG Qg kH
 refine (zP (step := jN _ _) (fun i => (i, q, t, l, cs, vs, z)) (yex vs l) (some false) (some (decide ((vs.length : Int) ≤ 6))) zX vs (by omega) ?_ ?_).trans ?_
 ·intro again i h0 h1
  have hw : Go.IntKind.wrap .i64 (i + 1) = i + 1 := w64 (by omega) (by omega)
  have hm : Go.IntKind.wrap .i64 (i - 1) = i - 1 := w64 (by omega) (by omega)
  have hmem := hvn _ (yZ zX vs i h0 h1)
  unfold jN yex
  obtain ⟨⟨x1, x2, x3, x4⟩, hx⟩ : ∃ x, y8 vs i = x := ⟨_, rfl⟩
  have hx' : vs.getD i.toNat zX = (x1, x2, x3, x4) := hx
  have hy : vs.getD (i - 1).toNat zX = y8 vs (i - 1) := rfl
  rw [hx'] at hmem
  rw [hx', hy]
  have e1 := J5 x1 hmem
  have e2 := Yo l x2 (by omega)
  have e3 := Kt l x2 hl
  simp only [Bool.cond_eq_ite, decide_eq_true_eq, h0, h1, if_true, hw, hm, hx, Yz, e1, e2, e3, y4r _ _ i q t l cs vs z x1 x2 x3 x4 h0 (by omega) hv, Option.bind_some, gt_iff_lt]
  cases Z3 x1
  ·rfl
  by_cases h5 : 0 < i
  ·have h3 : 0 ≤ i - 1 := by omega
   have h4 : i - 1 < (vs.length : Int) := by omega
   simp only [h5, h3, h4, if_true, decide_true]
   by_cases ha : zV l x2 < 0 <;> by_cases hk : (0 : Int) < ((Yx l x2).length : Int) <;> simp only [ha, hk, if_true, if_false, decide_true, decide_false] <;> cases Go.Op.bytesLess (ByteArray.toList (y8 vs (i - 1)).1) (ByteArray.toList x1) <;> cases inR x3 1 12 <;> cases YA (kG x2) (vs.take i.toNat) 0 <;> rfl
  ·simp only [h5, if_false, decide_false]
   by_cases ha : zV l x2 < 0 <;> by_cases hk : (0 : Int) < ((Yx l x2).length : Int) <;> simp only [ha, hk, if_true, if_false, decide_true, decide_false] <;> cases inR x3 1 12 <;> cases YA (kG x2) (vs.take i.toNat) 0 <;> rfl
 ·intro again i hi
  unfold jN
  simp only [Bool.cond_eq_ite, decide_eq_true_eq, if_neg hi]
 ·cases YA (yex vs l) vs 0 <;> rfl
theorem yaK (l : List ye) (v1 : ByteArray) (v2 v3 : Int) (v4 : Bool) (hl : l.length ≤ 1048576) : yF (l, v1, v2, v3, v4) = some (YA (kG v2) l 0, v1, v2, v3, v4) := by
 have key : yT (l, v1, v2, v3, v4) = some (ZE (fun u : ye => u.2.1 == v2) l 0, v1, v2, v3, v4) := by
  unfold yT Yv
  refine (Zw (step := yN _ _) (fun i => (l, (l.length : Int), i, v1, v2, v3, v4)) (fun u : ye => u.2.1 == v2) (fun x => some (x, v1, v2, v3, v4)) (some (-1, v1, v2, v3, v4)) zX l (by omega) ?_ ?_).trans ?_
  ·intro again i h0 h1
   have hw : Go.IntKind.wrap .i64 (i + 1) = i + 1 := w64 (by omega) (by omega)
   unfold yN Wu
   simp only [Bool.cond_eq_ite, decide_eq_true_eq, h0, h1, if_true, hw, Option.bind_some]
   rfl
  ·intro again i hi
   unfold yN
   simp only [Bool.cond_eq_ite, decide_eq_true_eq, if_neg hi]
  ·rcases Kg (fun u : ye => u.2.1 == v2) zX l 0 (Int.le_refl _) with h | ⟨h1, h2, h3⟩
   ·rw [h]
    rfl
   ·rw [if_neg (by omega)]
 unfold yF
 rw [key]
 simp only [Option.bind_some, ge_iff_le]
 rw [ybK _ l 0 0 (Int.le_refl _)]
 rfl
theorem y9d (q : List Int) (t : List y0) (l : List ya) (cs : List y7) (vs : List ye) (z : Int) (hl : l.length ≤ 1048576) (hv : vs.length ≤ 1048576) (hvn : ∀ v ∈ vs, ByteArray.size v.1 ≤ maxLen) : Wv (q, t, l, cs, vs, z) = some (kH vs l) := by
 unfold Wv QJ kH
 refine (zP (step := Jv _ _) (fun i => (vs, (vs.length : Int), i, q, t, l, cs, vs, z)) (yex vs l) (some false) (some (decide ((vs.length : Int) ≤ 6))) zX vs (by omega) ?_ ?_).trans ?_
 ·intro again i h0 h1
  have hw : Go.IntKind.wrap .i64 (i + 1) = i + 1 := w64 (by omega) (by omega)
  have hm : Go.IntKind.wrap .i64 (i - 1) = i - 1 := w64 (by omega) (by omega)
  have hmem := hvn _ (yZ zX vs i h0 h1)
  unfold Jv yex
  obtain ⟨⟨x1, x2, x3, x4⟩, hx⟩ : ∃ x, y8 vs i = x := ⟨_, rfl⟩
  have hx' : vs.getD i.toNat zX = (x1, x2, x3, x4) := hx
  have hy : vs.getD (i - 1).toNat zX = y8 vs (i - 1) := rfl
  rw [hx'] at hmem
  rw [hx', hy]
  have e1 := J6 x1 hmem
  have e2 := kF l x2 (by omega)
  have e3 := y55 l x2 hl
  have e4 : yF (List.drop (Int.toNat (0 : Int)) (List.take (Int.toNat i) vs), x1, x2, x3, x4) = some (YA (kG x2) (vs.take i.toNat) 0, x1, x2, x3, x4) := yaK (vs.take i.toNat) x1 x2 x3 x4 (by simp only [List.length_take]; omega)
  have h2 : i ≤ (vs.length : Int) := by omega
  simp only [Bool.cond_eq_ite, decide_eq_true_eq, h0, h1, h2, if_true, hw, hm, hx, YJ, e1, e2, e3, e4, Option.bind_some, gt_iff_lt, Int.le_refl]
  cases Z3 x1
  ·rfl
  by_cases h5 : 0 < i
  ·have h3 : 0 ≤ i - 1 := by omega
   have h4 : i - 1 < (vs.length : Int) := by omega
   simp only [h5, h3, h4, if_true, decide_true]
   by_cases ha : zV l x2 < 0 <;> by_cases hk : (0 : Int) < ((Yx l x2).length : Int) <;> simp only [ha, hk, if_true, if_false, decide_true, decide_false] <;> cases Go.Op.bytesLess (ByteArray.toList (y8 vs (i - 1)).1) (ByteArray.toList x1) <;> cases inR x3 1 12 <;> cases YA (kG x2) (vs.take i.toNat) 0 <;> rfl
  ·simp only [h5, if_false, decide_false]
   by_cases ha : zV l x2 < 0 <;> by_cases hk : (0 : Int) < ((Yx l x2).length : Int) <;> simp only [ha, hk, if_true, if_false, decide_true, decide_false] <;> cases inR x3 1 12 <;> cases YA (kG x2) (vs.take i.toNat) 0 <;> rfl
 ·intro again i hi
  unfold Jv
  simp only [Bool.cond_eq_ite, decide_eq_true_eq, if_neg hi]
 ·cases YA (yex vs l) vs 0 <;> rfl
end Go.Proofs.YthgdjjdigalckaaGreat.Pl
namespace Go.Proofs.YthgdjjdigalckaaGreat.Pl
open Go.Proofs.YthgdjjdigalckaaGreat.R Go.Proofs.YthgdjjdigalckaaGreat.XB
def JX (c : Int) (_ : Int) (u : y9) : Bool := (u.2.2.1 == 1) && (u.2.2.2.1 == c)
def yf1 (ks : List y9) (l : List ya) (cs : List y7) (i : Int) (a : y9) : Bool :=
 decide (zV l a.2.1 < 0) || ((a.2.2.1 == 1) && (!(Vj cs a.2.2.2.1 a.2.2.2.2).2 || YA (JX a.2.2.2.1) (ks.take i.toNat) 0))
def y5Q (n : Int) (a : y9) : Int := if (a.2.2.1 == 1) = true then Go.IntKind.wrap .i64 (n + 1) else n
def qY (ks : List y9) (l : List ya) (cs : List y7) : Bool := !YA (yf1 ks l cs) ks 0 && (ks.foldl y5Q 0 == y98 cs)
theorem y4s {R : Type} (k0 : (Bool × Int × Int × List yd × List y0 × List ya × List y7 × List ye × Int × List y9) → Option R) (k1 : (Int × Int × List yd × List y0 × List ya × List y7 × List ye × Int × List y9) → Option R) (n i : Int) (q : List Int) (t : List y0) (l : List ya) (cs : List y7) (vs : List ye) (z : Int) (ks : List y9) (h0 : 0 ≤ i) (h1 : i < (ks.length : Int)) (hk : ks.length ≤ 1048576) :
  K9 k0 k1 (n, i, 0, q, t, l, cs, vs, z, ks) = if YA (JX (y6 ks i).2.2.2.1) (ks.take i.toNat) 0 = true then k0 (false, n, i, q, t, l, cs, vs, z, ks) else k1 (n, i, q, t, l, cs, vs, z, ks) := by
 unfold K9
 have hlen := ybL ks i h0 (by omega)
 refine zP (step := j6 k0 k1) (fun k => (n, i, k, q, t, l, cs, vs, z, ks)) (JX (y6 ks i).2.2.2.1) _ _ zb (ks.take i.toNat) (by omega) ?_ ?_
 ·intro again k hk0 hk1
  rw [hlen] at hk1
  have hw : Go.IntKind.wrap .i64 (k + 1) = k + 1 := w64 (by omega) (by omega)
  have hk2 : k < (ks.length : Int) := by omega
  unfold j6 JX
  rw [y9b zb ks i k hk0 hk1]
  have hx : ks.getD k.toNat zb = y6 ks k := rfl
  rw [hx]
  simp only [Bool.cond_eq_ite, decide_eq_true_eq, hk0, hk1, hk2, h0, h1, if_true, hw]
  cases ((y6 ks k).2.2.1 == 1) <;> cases ((y6 ks k).2.2.2.1 == (y6 ks i).2.2.2.1) <;> rfl
 ·intro again k hk
  rw [hlen] at hk
  unfold j6
  simp only [Bool.cond_eq_ite, decide_eq_true_eq, if_neg hk]
theorem y4t (q : List Int) (t : List y0) (l : List ya) (cs : List y7) (vs : List ye) (z : Int) (ht : TOk t) (hl : l.length ≤ 1048576) (hc : cs.length ≤ 1048576) : wH (q, t, l, cs, vs, z) = some (qY (zF t) l cs) := by
 unfold wH Qh qY
 have hk := ht.keys
 have e : yL (q, t) = some (zF t) := Yy q t (by have := ht.len; omega) ht.nodes ht.sum
 simp only [e, Option.bind_some]
 generalize zF t = ks at hk
 refine (y3G (step := jP _ _) (fun (i n : Int) => (n, i, q, t, l, cs, vs, z, ks)) (yf1 ks l cs) y5Q (some false) (fun n => some (n == y98 cs)) zb ks (by omega) ?_ ?_ 0).trans ?_
 ·intro again i n h0 h1
  have hw : Go.IntKind.wrap .i64 (i + 1) = i + 1 := w64 (by omega) (by omega)
  unfold jP yf1 y5Q
  have hin := fun (k0 : (Bool × Int × Int × List yd × List y0 × List ya × List y7 × List ye × Int × List y9) → Option Bool) k1 m => y4s k0 k1 m i q t l cs vs z ks h0 h1 hk
  obtain ⟨⟨x1, x2, x3, x4, x5⟩, hx⟩ : ∃ x, y6 ks i = x := ⟨_, rfl⟩
  have hx' : ks.getD i.toNat zb = (x1, x2, x3, x4, x5) := hx
  rw [hx']
  rw [hx] at hin
  have e1 := Yo l x2 (by omega)
  have e2 := VV cs x4 x5 hc
  simp only [Bool.cond_eq_ite, decide_eq_true_eq, h0, h1, if_true, hw, hx, e1, e2, hin, Option.bind_some]
  by_cases ha : zV l x2 < 0
  ·simp only [ha, if_true, decide_true, Bool.true_or]
  ·simp only [ha, if_false, decide_false, Bool.false_or]
   by_cases h3 : x3 = 1
   ·have g1 : (x3 == 1) = true := by simp [h3]
    have g2 : (x3 != 1) = false := by simp [h3]
    rw [g1, g2]
    cases (Vj cs x4 x5).2 <;> cases YA (JX x4) (ks.take i.toNat) 0 <;> rfl
   ·have g1 : (x3 == 1) = false := by simpa using h3
    have g2 : (x3 != 1) = true := by simpa using h3
    rw [g1, g2]
    rfl
 ·intro again i n hi
  unfold jP
  simp only [Bool.cond_eq_ite, decide_eq_true_eq, if_neg hi, y99 cs hc, Option.bind_some]
 ·cases YA (yf1 ks l cs) ks 0 <;> rfl
theorem ybM (c : Int) : ∀ (l : List y9) (i : Int) (j : Nat), j < l.length → YA (JX c) (l.take (j + 1)) i = (YA (JX c) (l.take j) i || JX c 0 (l.getD j zb))
 | a :: l, i, 0, _ => by simp [YA, JX]
 | a :: l, i, j + 1, h => by
  have := ybM c l (i + 1) j (by simpa using h)
  rw [List.take_succ_cons, YA, this, List.take_succ_cons, YA, List.getD_cons_succ, Bool.or_assoc]
def ycP (s : Int × List Bool) (a : y9) : Int × List Bool := (y5Q s.1 a, if (a.2.2.1 == 1) = true then s.2.set a.2.2.2.1.toNat true else s.2)
theorem yiV : ∀ (l : List y9) (s : Int × List Bool), (l.foldl ycP s).1 = l.foldl y5Q s.1
 | [], _ => rfl
 | a :: l, s => yiV l (ycP s a)
theorem y4u (q : List Int) (t : List y0) (l : List ya) (cs : List y7) (vs : List ye) (z : Int) (ht : TOk t) (hl : l.length ≤ 1048576) (hc : cs.length = 24) : wx (q, t, l, cs, vs, z) = some (qY (zF t) l cs) := by
 unfold wx Qa qY
 have hk := ht.keys
 have e : Yr (q, t) = some (zF t) := Qk q t (by have := ht.len; omega) ht.nodes ht.sum
 rw [if_pos (by omega), if_pos (Int.le_refl _), if_pos (by omega)]
 simp only [e, Option.bind_some]
 generalize zF t = ks at hk
 refine (y4m (step := jI _ _) (fun (i : Int) (s : Int × List Bool) => (s.1, (ks.length : Int), i, q, t, l, cs, vs, z, s.2, ks)) (fun i s a => if yf1 ks l cs i a = true then .error (some false) else .ok (ycP s a)) (fun s => some (s.1 == y98 cs)) zb ks (by omega) (fun j s => s.2.length = 24 ∧ ∀ c : Nat, c < 24 → s.2.getD c false = YA (JX (c : Int)) (ks.take j) 0) ?_ ?_ 0 (Int.le_refl _) (0, List.replicate (Int.toNat 24) ydK) ⟨rfl, fun c hc => ?_⟩).trans ?_
 ·rintro again i ⟨n, tk⟩ h0 h1 ⟨hI1, hI2⟩
  simp only at hI1 hI2
  have hw : Go.IntKind.wrap .i64 (i + 1) = i + 1 := w64 (by omega) (by omega)
  obtain ⟨⟨x1, x2, x3, x4, x5⟩, hx⟩ : ∃ x, y6 ks i = x := ⟨_, rfl⟩
  have hx' : ks.getD i.toNat zb = (x1, x2, x3, x4, x5) := hx
  have hgd : ks.getD i.toNat zb = ks.getD i.toNat zb := rfl
  have e1 := kF l x2 (by omega)
  have e2 := y14 cs x4 x5 (by omega)
  have hcell : (Vj cs x4 x5).2 = true → 0 ≤ x4 ∧ x4 < 24 := fun h => by
   unfold Vj at h
   split at h
   ·rename_i hh
    simp only [Bool.and_eq_true] at hh
    have := Z6.1 hh.1
    omega
   ·cases h
  rw [hx']
  refine ⟨?_, fun s' hs' => ?_⟩
  ·unfold jI yf1 ycP y5Q
   simp only [Bool.cond_eq_ite, decide_eq_true_eq, h0, h1, if_true, hw, hx, e1, e2, Option.bind_some]
   by_cases ha : zV l x2 < 0
   ·simp only [ha, if_true, decide_true, Bool.true_or]
   ·simp only [ha, if_false, decide_false, Bool.false_or]
    by_cases h3 : x3 = 1
    ·have g1 : (x3 == 1) = true := by simp [h3]
     have g2 : (x3 != 1) = false := by simp [h3]
     rw [g1, g2]
     cases hok : (Vj cs x4 x5).2 with
     | false => rfl
     | true =>
      obtain ⟨b0, b1⟩ := hcell hok
      have b2 : x4 < (tk.length : Int) := by omega
      have hrd : ydL tk x4 = YA (JX x4) (ks.take i.toNat) 0 := by
       have := hI2 x4.toNat (by omega)
       rw [show ((x4.toNat : Nat) : Int) = x4 by omega] at this
       exact this
      simp only [b0, b2, if_true, hrd]
      cases YA (JX x4) (ks.take i.toNat) 0 <;> rfl
    ·have g1 : (x3 == 1) = false := by simpa using h3
     have g2 : (x3 != 1) = true := by simpa using h3
     rw [g1, g2]
     rfl
  ·by_cases hb : yf1 ks l cs i (x1, x2, x3, x4, x5) = true
   ·rw [if_pos hb] at hs'
    cases hs'
   ·rw [if_neg hb] at hs'
    injection hs' with hs'
    subst hs'
    have hsucc : ∀ c : Int, YA (JX c) (ks.take (i.toNat + 1)) 0 = (YA (JX c) (ks.take i.toNat) 0 || JX c 0 (x1, x2, x3, x4, x5)) := fun c => by
     rw [ybM c ks 0 i.toNat (by omega), hx']
    unfold ycP
    simp only
    by_cases h3 : x3 = 1
    ·have g1 : (x3 == 1) = true := by simp [h3]
     simp only [g1, if_true]
     have hok : (Vj cs x4 x5).2 = true := by
      unfold yf1 at hb
      simp only [g1] at hb
      cases hh : (Vj cs x4 x5).2 with
      | true => rfl
      | false =>
       rw [hh] at hb
       simp at hb
     obtain ⟨b0, b1⟩ := hcell hok
     refine ⟨by simpa using hI1, fun c hc => ?_⟩
     rw [hsucc, ← hI2 c hc]
     unfold JX
     simp only [g1, Bool.true_and]
     rw [List.getD_eq_getElem?_getD, List.getD_eq_getElem?_getD]
     by_cases hcx : c = x4.toNat
     ·rw [← hcx, List.getElem?_set_self (by omega)]
      have : (x4 == (c : Int)) = true := by
       simp only [beq_iff_eq]
       omega
      rw [this]
      simp
     ·rw [List.getElem?_set_ne (fun h => hcx h.symm)]
      have : (x4 == (c : Int)) = false := by
       simp only [beq_eq_false_iff_ne, ne_eq]
       omega
      rw [this]
      simp
    ·have g1 : (x3 == 1) = false := by simpa using h3
     simp only [g1, Bool.false_eq_true, if_false]
     refine ⟨hI1, fun c hc => ?_⟩
     rw [hsucc, ← hI2 c hc]
     unfold JX
     simp only [g1, Bool.false_and, Bool.or_false]
 ·rintro again i ⟨n, tk⟩ hi
  unfold jI
  simp only [Bool.cond_eq_ite, decide_eq_true_eq, if_neg hi, y9a cs (by omega), Option.bind_some]
  rw [Bool.beq_comm]
 ·show (List.replicate 24 false).getD c false = _
  rw [List.getD_eq_getElem?_getD, List.getElem?_replicate]
  simp [YA, hc]
 ·have := y3F (yf1 ks l cs) ycP (some false) (fun s : Int × List Bool => some (s.1 == y98 cs)) ks 0 (0, List.replicate (Int.toNat 24) ydK)
  rw [show (0 : Int).toNat = 0 from rfl, List.drop_zero, this, yiV]
  cases YA (yf1 ks l cs) ks 0 <;> rfl
def y1l (z : Int) (_ : Int) (a : ya) : Bool := decide (a.1 ≥ z)
def yQ (q : List Int) (t : List y0) (l : List ya) (cs : List y7) (vs : List ye) (z : Int) : Bool :=
 Z2 q t && (JV l && (zT cs && (inR z 1 61 && (!YA (y1l z) l 0 && (kH vs l && qY (zF t) l cs)))))
theorem y15 (q : List Int) (t : List y0) (l : List ya) (cs : List y7) (vs : List ye) (z : Int) (ht : TOk t) (hl : l.length ≤ 1048576) (hc : cs.length ≤ 1048576) (hv : vs.length ≤ 1048576) (hvn : ∀ v ∈ vs, ByteArray.size v.1 ≤ maxLen) : yJ (q, t, l, cs, vs, z) = some (yQ q t l cs vs z) := by
 unfold yJ QZ yQ
 refine (zP (step := JI _ _) (fun i => (i, q, t, l, cs, vs, z)) (y1l z) (some false) (some (Z2 q t && (JV l && (zT cs && (inR z 1 61 && (kH vs l && qY (zF t) l cs)))))) YT l (by omega) ?_ ?_).trans ?_
 ·intro again i h0 h1
  have hw : Go.IntKind.wrap .i64 (i + 1) = i + 1 := w64 (by omega) (by omega)
  unfold JI y1l
  have hx : l.getD i.toNat YT = yD l i := rfl
  rw [hx]
  simp only [Bool.cond_eq_ite, decide_eq_true_eq, h0, h1, if_true, hw]
 ·intro again i hi
  unfold JI
  simp only [Bool.cond_eq_ite, decide_eq_true_eq, if_neg hi, VT q t ht, wQ l hl, JW cs hc, Yz, y9c q t l cs vs z hl hv hvn, y4t q t l cs vs z ht hl hc, Option.bind_some]
  cases Z2 q t <;> cases JV l <;> cases zT cs <;> cases inR z 1 61 <;> cases kH vs l <;> rfl
 ·cases YA (y1l z) l 0 <;> cases Z2 q t <;> cases JV l <;> cases zT cs <;> cases inR z 1 61 <;> rfl
theorem y56 (q : List Int) (t : List y0) (l : List ya) (cs : List y7) (vs : List ye) (z : Int) (ht : TOk t) (hl : l.length ≤ 1048576) (hc : cs.length ≤ 1048576) (hv : vs.length ≤ 1048576) (hvn : ∀ v ∈ vs, ByteArray.size v.1 ≤ maxLen) : Yk (q, t, l, cs, vs, z) = some (yQ q t l cs vs z) := by
 unfold Yk yQ
 simp only [VU q t ht, y13 l hl, Vi cs hc, YJ, Option.bind_some]
 cases Z2 q t
 ·rfl
 cases JV l
 ·rfl
 cases hcc : zT cs
 ·rfl
 cases inR z 1 61
 ·rfl
 have hc24 : cs.length = 24 := by
  unfold zT at hcc
  simp only [Bool.and_eq_true, beq_iff_eq] at hcc
  omega
 simp only [Bool.not_true, cond_false, Option.bind_some, Bool.true_and]
 unfold QK
 refine (zP (step := Jw _ _) (fun i => (l, (l.length : Int), i, q, t, l, cs, vs, z)) (y1l z) (some false) (some (kH vs l && qY (zF t) l cs)) YT l (by omega) ?_ ?_).trans ?_
 ·intro again i h0 h1
  have hw : Go.IntKind.wrap .i64 (i + 1) = i + 1 := w64 (by omega) (by omega)
  unfold Jw y1l
  have hx : l.getD i.toNat YT = yD l i := rfl
  rw [hx]
  simp only [Bool.cond_eq_ite, decide_eq_true_eq, h0, h1, if_true, hw]
 ·intro again i hi
  unfold Jw
  simp only [Bool.cond_eq_ite, decide_eq_true_eq, if_neg hi, y9d q t l cs vs z hl hv hvn, y4u q t l cs vs z ht hl hc24, Option.bind_some]
  cases kH vs l <;> rfl
 ·cases YA (y1l z) l 0 <;> rfl
end Go.Proofs.YthgdjjdigalckaaGreat.Pl
namespace Go.Proofs.YthgdjjdigalckaaGreat.Pl
open Go.Proofs.YthgdjjdigalckaaGreat.R Go.Proofs.YthgdjjdigalckaaGreat.XB
theorem y1m {A : Type} (p : Int → A → Bool) : ∀ (l : List A) (i : Int), YA p l i = false → ∀ a ∈ l, ∃ j, p j a = false
 | [], _, _, a, h => by simp at h
 | b :: l, i, h, a, ha => by
  simp only [YA, Bool.or_eq_false_iff] at h
  rcases List.mem_cons.1 ha with rfl | ha
  ·exact ⟨i, h.1⟩
  ·exact y1m p l (i + 1) h.2 a ha
theorem y83 {s : List y9} (h : Ql s = true) : s.length ≤ 60 ∧ ∀ k ∈ s, wm k = true := by
 unfold Ql at h
 simp only [Bool.and_eq_true, Bool.not_eq_true', decide_eq_true_eq] at h
 refine ⟨by omega, fun k hk => ?_⟩
 obtain ⟨j, hj⟩ := y1m _ s 0 h.1 k hk
 simpa using hj
theorem y4v {n : List yb} (h : YB n = true) : n.length ≤ 3 ∧ ∀ s ∈ n, Ql s = true := by
 unfold YB at h
 simp only [Bool.and_eq_true, Bool.not_eq_true', decide_eq_true_eq] at h
 refine ⟨by omega, fun s hs => ?_⟩
 obtain ⟨j, hj⟩ := y1m _ n 0 h.1 s hs
 unfold y1V at hj
 simp only [Bool.or_eq_false_iff, Bool.not_eq_false'] at hj
 exact hj.1
theorem wR {q : List Int} {t : List y0} (h : Z2 q t = true) : q.length = t.length ∧ 1 ≤ t.length ∧ t.length ≤ 20 ∧ ∀ n ∈ t, YB n = true := by
 unfold Z2 at h
 simp only [Bool.and_eq_true, Bool.not_eq_true', decide_eq_true_eq, Z6] at h
 obtain ⟨h1, h2, _, h3, _⟩ := h
 refine ⟨h2, by omega, by omega, fun n hn => ?_⟩
 obtain ⟨j, hj⟩ := y1m _ t 0 h3 n hn
 unfold y0j at hj
 simp only [Bool.or_eq_false_iff, Bool.not_eq_false'] at hj
 have h4 := hj.2
 unfold yaI at h4
 simp only [Bool.and_eq_true] at h4
 exact h4.1
end Go.Proofs.YthgdjjdigalckaaGreat.Pl
namespace Go.Proofs.YthgdjjdigalckaaGreat.Pl
open Go.Proofs.YthgdjjdigalckaaGreat.R Go.Proofs.YthgdjjdigalckaaGreat.XB
theorem y4w {a b : y9} : qV a b = true ↔ a.1 < b.1 ∨ a.1 = b.1 ∧ a.2.1 < b.2.1 := by
 unfold qV
 by_cases h1 : a.1 < b.1
 ·simp [h1]
 ·by_cases h2 : a.1 = b.1 <;> simp [h1, h2]
theorem y9e {a b : y9} : qW a b = true ↔ a.1 = b.1 ∧ a.2.1 = b.2.1 := by simp [qW]
def srt (l : List y9) : Prop := l.Pairwise fun a b => qV a b = true
def yey : List y9 → y9 → List y9
 | [], k => [k]
 | c :: r, k => if qV c k = true then c :: yey r k else k :: (c :: r).filter fun x => !qW x k
theorem ybN (k : y9) : ∀ (l o : List y9), l.foldl (J9 k) (true, o) = (true, o ++ l.filter fun x => !qW x k)
 | [], o => by simp
 | c :: l, o => by
  rw [List.foldl_cons, List.filter_cons]
  have e : J9 k (true, o) c = (true, if qW c k then o else o ++ [c]) := by simp [J9]
  rw [e, ybN k l]
  cases qW c k <;> simp
def ym0 (k : y9) (r : Bool × List y9) : List y9 := if r.1 then r.2 else r.2 ++ [k]
theorem y9f (k : y9) : ∀ (l o : List y9), ym0 k (l.foldl (J9 k) (false, o)) = o ++ yey l k
 | [], o => by simp [yey, ym0]
 | c :: l, o => by
  rw [List.foldl_cons, yey]
  cases hl : qV c k with
  | true =>
   have hs : qW c k = false := by
    cases hs : qW c k with
    | false => rfl
    | true =>
     rw [y4w] at hl
     rw [y9e] at hs
     omega
   have e : J9 k (false, o) c = (false, o ++ [c]) := by simp [J9, hl, hs]
   rw [e, y9f k l (o ++ [c])]
   simp
  | false =>
   have e : J9 k (false, o) c = (true, if qW c k then o ++ [k] else o ++ [k] ++ [c]) := by simp [J9, hl]
   rw [e, ybN]
   simp only [ym0, if_true, List.filter_cons, Bool.false_eq_true, if_false]
   cases qW c k <;> simp
theorem y5R (l : List y9) (k : y9) : wl l k = yey l k := by
 exact (y9f k l []).trans (List.nil_append _)
theorem y84 {k : y9} : ∀ {l : List y9} {x : y9}, x ∈ yey l k → x = k ∨ x ∈ l
 | [], x, h => by simpa [yey] using h
 | c :: r, x, h => by
  rw [yey] at h
  split at h
  ·rcases List.mem_cons.1 h with rfl | h
   ·exact .inr (by simp)
   ·rcases y84 h with h | h
    ·exact .inl h
    ·exact .inr (by simp [h])
  ·rcases List.mem_cons.1 h with rfl | h
   ·exact .inl rfl
   ·exact .inr (List.mem_filter.1 h).1
theorem ybO (k : y9) : ∀ (l : List y9), srt l → srt (yey l k)
 | [], _ => by simp [srt, yey]
 | c :: r, h => by
  obtain ⟨h1, h2⟩ := List.pairwise_cons.1 h
  rw [yey]
  split
  ·rename_i hl
   refine List.pairwise_cons.2 ⟨fun y hy => ?_, ybO k r h2⟩
   rcases y84 hy with rfl | hy
   ·exact hl
   ·exact h1 y hy
  ·rename_i hl
   refine List.pairwise_cons.2 ⟨fun y hy => ?_, List.Pairwise.filter _ h⟩
   obtain ⟨hy, hs⟩ := List.mem_filter.1 hy
   have hs' : ¬ (y.1 = k.1 ∧ y.2.1 = k.2.1) := fun e => by
    rw [y9e.2 e] at hs
    cases hs
   rw [y4w] at hl ⊢
   rcases List.mem_cons.1 hy with rfl | hy
   ·omega
   ·have := y4w.1 (h1 y hy)
    omega
theorem y5S {l : List y9} (k : y9) (h : srt l) : srt (wl l k) := by rw [y5R]; exact ybO k l h
theorem y5T {l : List y9} {k x : y9} (h : x ∈ wl l k) : x = k ∨ x ∈ l := by rw [y5R] at h; exact y84 h
theorem y5U : ∀ (b a : List y9), srt a → srt (Wh a b)
 | [], _, h => h
 | c :: b, a, h => y5U b _ (y5S c h)
theorem y5V : ∀ (b a : List y9) {x : y9}, x ∈ Wh a b → x ∈ a ∨ x ∈ b
 | [], _, _, h => .inl h
 | c :: b, a, x, h => by
  rcases y5V b (wl a c) h with h | h
  ·rcases y5T h with rfl | h
   ·exact .inr (by simp)
   ·exact .inl h
  ·exact .inr (by simp [h])
theorem ybP : ∀ (l s : List y9), l.foldl Vf s = s ++ l.filter fun c => !decide (c.2.2.1 = 0)
 | [], s => by simp
 | c :: l, s => by
  rw [List.foldl_cons, ybP l, List.filter_cons]
  unfold Vf
  by_cases h : c.2.2.1 = 0 <;> simp [h]
theorem ybQ (l : List y9) : y4k l = l.filter fun c => !decide (c.2.2.1 = 0) := by
 have := ybP l []
 simpa [y4k] using this
theorem y9g {l : List y9} (h : srt l) : srt (y4k l) := by rw [ybQ]; exact List.Pairwise.filter _ h
theorem y9h {l : List y9} {x : y9} (h : x ∈ y4k l) : x ∈ l := by rw [ybQ] at h; exact (List.mem_filter.1 h).1
theorem y9i : ∀ (n : List yb) (s : List y9), srt s → srt (n.foldl Wh s)
 | [], _, h => h
 | c :: n, s, h => y9i n _ (y5U c s h)
theorem y9j : ∀ (n : List yb) (s : List y9) {x : y9}, x ∈ n.foldl Wh s → x ∈ s ∨ ∃ c ∈ n, x ∈ (show List y9 from c)
 | [], _, _, h => .inl h
 | c :: n, s, x, h => by
  rcases y9j n (Wh s c) h with h | ⟨d, hd, hx⟩
  ·rcases y5V c s h with h | h
   ·exact .inl h
   ·exact .inr ⟨c, by simp, h⟩
  ·exact .inr ⟨d, by simp [hd], hx⟩
theorem yez (n : List yb) : srt (z3 n) := y9g (y9i n [] List.Pairwise.nil)
theorem yeA {n : List yb} {x : y9} (h : x ∈ z3 n) : ∃ c ∈ n, x ∈ (show List y9 from c) := by
 rcases y9j n [] (y9h h) with h | h
 ·cases h
 ·exact h
theorem y1W {A : Type} {p : Int → A → Bool} (da : A) : ∀ (l : List A) (i : Int), (∀ j : Nat, j < l.length → p (i + j) (l.getD j da) = false) → YA p l i = false
 | [], _, _ => rfl
 | a :: l, i, h => by
  rw [YA, Bool.or_eq_false_iff]
  refine ⟨by simpa using h 0 (by simp), y1W da l (i + 1) fun j hj => ?_⟩
  have := h (j + 1) (by simpa using hj)
  rw [List.getD_cons_succ] at this
  rw [show i + 1 + (j : Int) = i + ((j + 1 : Nat) : Int) by omega]
  exact this
theorem y1n {A : Type} (da : A) (l : List A) (j : Nat) (h : j < l.length) : l.getD j da = l[j] := by simp [List.getD, h]
theorem yeB {l : List y9} (h : srt l) : YA (W5 l) l 0 = false := by
 refine y1W zb l 0 fun j hj => ?_
 unfold W5
 cases j with
 | zero => simp
 | succ j =>
  have h2 := List.pairwise_iff_getElem.1 h j (j + 1) (by omega) hj (by omega)
  rw [show ((0 : Int) + ((j + 1 : Nat) : Int) - 1).toNat = j by omega, y1n _ _ _ (by omega), y1n _ _ _ hj, h2]
  simp
theorem ytJ {l : List y9} (h : srt l) (hk : ∀ k ∈ l, wm k = true) (hl : l.length ≤ 60) : Ql l = true := by
 unfold Ql
 rw [yeB h, y1W zb l 0 fun j hj => by
  rw [y1n _ _ _ hj, hk _ (List.getElem_mem hj)]
  rfl]
 simp
 omega
def zt (l : List y9) : List yb := if l.length = 0 then [] else [l]
theorem ycQ {l : List y9} (h : srt l) (hk : ∀ k ∈ l, wm k = true) (hl : l.length ≤ 8) : YB (zt l) = true := by
 unfold zt
 split
 ·rfl
 ·rename_i h0
  have h1 := ytJ h hk (by omega)
  have h2 : y12 0 l = (List.length l : Int) := by
   unfold y12
   rw [w64 (by omega) (by omega)]
   omega
  unfold YB
  simp only [YA, y1V, h1, Bool.not_true, Bool.false_or, Bool.or_false, List.foldl_cons, List.foldl_nil, h2, List.length_cons, List.length_nil]
  rw [show (((List.length l : Nat) : Int) == 0) = false from beq_eq_false_iff_ne.2 (by omega)]
  simp
  omega
end Go.Proofs.YthgdjjdigalckaaGreat.Pl
namespace Go.Proofs.YthgdjjdigalckaaGreat.Pl
open Go.Proofs.YthgdjjdigalckaaGreat.R Go.Proofs.YthgdjjdigalckaaGreat.XB
theorem y3H {T A R : Type} {step : (T → Option R) → T → Option R} (da : A) (l : List A) (St0 : Int → T) (St1 : Int → List A → T) (k0 : Option R) (k1 : List A → Option R) (hl : l.length ≤ 1099511627776)
  (h0 : ∀ again i, 0 ≤ i → i < ((List.length l : Nat) : Int) → step again (St0 i) = again (St1 (i + 1) [l.getD i.toNat da]))
  (h1 : ∀ again i o, 0 ≤ i → i < ((List.length l : Nat) : Int) → List.length o ≤ List.length l → step again (St1 i o) = again (St1 (i + 1) (o ++ [l.getD i.toNat da])))
  (hd0 : ∀ again i, ¬ i < ((List.length l : Nat) : Int) → step again (St0 i) = k0)
  (hd1 : ∀ again i o, ¬ i < ((List.length l : Nat) : Int) → step again (St1 i o) = k1 o) : zI step Y0 (St0 0) = if l.length = 0 then k0 else k1 l := by
 have key : ∀ (m : Nat) (i : Int), 0 ≤ i → i ≤ l.length → l.length - i.toNat < m → zI step m (St1 i (l.take i.toNat)) = k1 l := by
  intro m
  induction m with
  | zero => intro i _ _ h; omega
  | succ m ih =>
   intro i i0 i1 hm
   rw [zI]
   by_cases hi : i < ((List.length l : Nat) : Int)
   ·have e1 : (i + 1).toNat = i.toNat + 1 := by omega
    have e2 : l.take i.toNat ++ [l.getD i.toNat da] = l.take (i + 1).toNat := by
     rw [e1, List.take_succ_eq_append_getElem (by omega), y7V da l i i0 hi]
    rw [h1 _ i _ i0 hi (by rw [List.length_take]; omega), e2]
    exact ih (i + 1) (by omega) (by omega) (by omega)
   ·rw [hd1 _ i _ hi, List.take_of_length_le (by omega)]
 have hF : Y0 = (Y0 - 1) + 1 := by
  have := y1e
  omega
 rw [hF, zI]
 by_cases h : l.length = 0
 ·rw [if_pos h, hd0 _ 0 (by omega)]
 ·rw [if_neg h, h0 _ 0 (Int.le_refl _) (by omega)]
  have e : [l.getD (0 : Int).toNat da] = l.take (0 + 1 : Int).toNat := by
   cases l with
   | nil => simp at h
   | cons a l => rfl
  rw [e]
  exact key _ _ (by omega) (by omega) (by
   have := y1e
   omega)
theorem yuo {A : Type} (a : A) (k : Nat) (h : k < 140737488355328) : List.length [a] * k < 140737488355328 := by
 simp only [List.length_cons, List.length_nil]
 omega
end Go.Proofs.YthgdjjdigalckaaGreat.Pl
namespace Go.Proofs.YthgdjjdigalckaaGreat.Pl
open Go.Proofs.YthgdjjdigalckaaGreat.R Go.Proofs.YthgdjjdigalckaaGreat.XB
def y35 (n : y0) : Prop := List.length n ≤ 1048576 ∧ ∀ b ∈ (show List yb from n), List.length b ≤ 1048576
theorem VW (n : List yb) (h : y35 n) : zc n = some n := by
 have h1 : n.length ≤ 1048576 := h.1
 have e : zc n = if n.length = 0 then some ([] : List yb) else some n := by
  unfold zc QS
  refine y3H (step := YV _ _) yV n (fun i => Sum.inl (i, n)) (fun i o => Sum.inr (i, n, o)) _ (fun o => some o) (by omega) ?_ ?_ ?_ ?_
  ·intro again i i0 i1
   have hw : Go.IntKind.wrap .i64 (i + 1) = i + 1 := w64 (by omega) (by omega)
   have hr : List.length (yo n i) ≤ 1048576 := h.2 _ (yZ yV n i i0 i1)
   simp only [YV, Bool.cond_eq_ite, decide_eq_true_eq, i0, i1, if_true, hw]
   rw [if_pos (by simp only [List.length_nil]; omega), if_pos (yuo _ _ (by decide))]
   rfl
  ·intro again i o i0 i1 i2
   have hw : Go.IntKind.wrap .i64 (i + 1) = i + 1 := w64 (by omega) (by omega)
   have hr : List.length (yo n i) ≤ 1048576 := h.2 _ (yZ yV n i i0 i1)
   simp only [YV, Bool.cond_eq_ite, decide_eq_true_eq, i0, i1, if_true, hw]
   rw [if_pos (by simp only [List.length_nil]; omega), if_pos (by simp only [List.length_cons, List.length_nil]; omega)]
   rfl
  ·intro again i hi
   simp only [YV, Bool.cond_eq_ite, decide_eq_true_eq, if_neg hi]
  ·intro again i o hi
   simp only [YV, Bool.cond_eq_ite, decide_eq_true_eq, if_neg hi]
 rw [e]
 split
 ·rename_i h0
  rw [List.length_eq_zero_iff.1 h0]
 ·rfl
theorem KX (l : List y9) (h : l.length ≤ 1048576) : Y1 l = some l := by
 unfold Y1
 rw [if_pos (by simp only [List.length_nil]; omega)]
 rfl
theorem KY (n : List yb) (h : y35 n) : zw n = some n := by
 have h1 : n.length ≤ 1048576 := h.1
 have e : zw n = if n.length = 0 then some ([] : List yb) else some n := by
  unfold zw qu
  refine y3H (step := Ye _ _) yV n (fun i => Sum.inl (n, ((List.length n : Nat) : Int), i)) (fun i o => Sum.inr (n, ((List.length n : Nat) : Int), i, o)) _ (fun o => some o) (by omega) ?_ ?_ ?_ ?_
  ·intro again i i0 i1
   have hw : Go.IntKind.wrap .i64 (i + 1) = i + 1 := w64 (by omega) (by omega)
   have hr : List.length (yo n i) ≤ 1048576 := h.2 _ (yZ yV n i i0 i1)
   simp only [Ye, Bool.cond_eq_ite, decide_eq_true_eq, i0, i1, if_true, hw, KX _ hr, Option.bind_some]
   rw [if_pos (yuo _ _ (by decide))]
   rfl
  ·intro again i o i0 i1 i2
   have hw : Go.IntKind.wrap .i64 (i + 1) = i + 1 := w64 (by omega) (by omega)
   have hr : List.length (yo n i) ≤ 1048576 := h.2 _ (yZ yV n i i0 i1)
   simp only [Ye, Bool.cond_eq_ite, decide_eq_true_eq, i0, i1, if_true, hw, KX _ hr, Option.bind_some]
   rw [if_pos (by simp only [List.length_cons, List.length_nil]; omega)]
   rfl
  ·intro again i hi
   simp only [Ye, Bool.cond_eq_ite, decide_eq_true_eq, if_neg hi]
  ·intro again i o hi
   simp only [Ye, Bool.cond_eq_ite, decide_eq_true_eq, if_neg hi]
 rw [e]
 split
 ·rename_i h0
  rw [List.length_eq_zero_iff.1 h0]
 ·rfl
theorem VX (q : List yd) (t : List y0) (hq : q.length ≤ 1048576) (ht : t.length ≤ 1048576) (hn : ∀ n ∈ t, y35 n) : Zn (q, t) = some (q, t) := by
 have e : Zn (q, t) = if t.length = 0 then some (q, ([] : List y0)) else some (q, t) := by
  unfold Zn QT
  simp only [List.length_nil, List.nil_append]
  rw [if_pos (by omega)]
  refine y3H (step := YW _ _) yz t (fun i => Sum.inl (i, q, t, q)) (fun i o => Sum.inr (i, q, t, q, o)) _ (fun o => some (q, o)) (by omega) ?_ ?_ ?_ ?_
  ·intro again i i0 i1
   have hw : Go.IntKind.wrap .i64 (i + 1) = i + 1 := w64 (by omega) (by omega)
   have hr : y35 (yf t i) := hn _ (yZ yz t i i0 i1)
   simp only [YW, Bool.cond_eq_ite, decide_eq_true_eq, i0, i1, if_true, hw, VW _ hr, Option.bind_some]
   rw [if_pos (yuo _ _ (by decide))]
   rfl
  ·intro again i o i0 i1 i2
   have hw : Go.IntKind.wrap .i64 (i + 1) = i + 1 := w64 (by omega) (by omega)
   have hr : y35 (yf t i) := hn _ (yZ yz t i i0 i1)
   simp only [YW, Bool.cond_eq_ite, decide_eq_true_eq, i0, i1, if_true, hw, VW _ hr, Option.bind_some]
   rw [if_pos (by simp only [List.length_cons, List.length_nil]; omega)]
   rfl
  ·intro again i hi
   simp only [YW, Bool.cond_eq_ite, decide_eq_true_eq, if_neg hi]
  ·intro again i o hi
   simp only [YW, Bool.cond_eq_ite, decide_eq_true_eq, if_neg hi]
 rw [e]
 split
 ·rename_i h0
  rw [List.length_eq_zero_iff.1 h0]
 ·rfl
theorem Qm (l : List yd) (h : l.length ≤ 1048576) : ZU l = some l := by
 unfold ZU
 rw [if_pos (by simp only [List.length_nil]; omega)]
 rfl
theorem Qn (q : List yd) (t : List y0) (hq : q.length ≤ 1048576) (ht : t.length ≤ 1048576) (hn : ∀ n ∈ t, y35 n) : zx (q, t) = some (q, t) := by
 have e : zx (q, t) = if t.length = 0 then some (q, ([] : List y0)) else some (q, t) := by
  unfold zx qv
  simp only [Qm q hq, Option.bind_some]
  refine y3H (step := Yf _ _) yz t (fun i => Sum.inl (t, ((List.length t : Nat) : Int), i, q)) (fun i o => Sum.inr (t, ((List.length t : Nat) : Int), i, q, o)) _ (fun o => some (q, o)) (by omega) ?_ ?_ ?_ ?_
  ·intro again i i0 i1
   have hw : Go.IntKind.wrap .i64 (i + 1) = i + 1 := w64 (by omega) (by omega)
   have hr : y35 (yf t i) := hn _ (yZ yz t i i0 i1)
   simp only [Yf, Bool.cond_eq_ite, decide_eq_true_eq, i0, i1, if_true, hw, KY _ hr, Option.bind_some]
   rw [if_pos (yuo _ _ (by decide))]
   rfl
  ·intro again i o i0 i1 i2
   have hw : Go.IntKind.wrap .i64 (i + 1) = i + 1 := w64 (by omega) (by omega)
   have hr : y35 (yf t i) := hn _ (yZ yz t i i0 i1)
   simp only [Yf, Bool.cond_eq_ite, decide_eq_true_eq, i0, i1, if_true, hw, KY _ hr, Option.bind_some]
   rw [if_pos (by simp only [List.length_cons, List.length_nil]; omega)]
   rfl
  ·intro again i hi
   simp only [Yf, Bool.cond_eq_ite, decide_eq_true_eq, if_neg hi]
  ·intro again i o hi
   simp only [Yf, Bool.cond_eq_ite, decide_eq_true_eq, if_neg hi]
 rw [e]
 split
 ·rename_i h0
  rw [List.length_eq_zero_iff.1 h0]
 ·rfl
theorem y0l (q : List yd) (t : List y0) (l : List ya) (cs : List y7) (vs : List ye) (z : Int) (h : small q t l cs vs) : yp (q, t, l, cs, vs, z) = some (q, t, l, cs, vs, z) := by
 obtain ⟨h1, h2, h3, h4, h5, h6⟩ := h
 unfold yp Y3
 simp only [VX q t h1 h2 (fun n hn => Wi h3 hn), Option.bind_some, List.length_nil, List.nil_append]
 rw [if_pos (by omega), if_pos (by omega)]
 simp only [Option.bind_some]
 rw [if_pos (by omega)]
theorem Qo (q : List yd) (t : List y0) (l : List ya) (cs : List y7) (vs : List ye) (z : Int) (h : small q t l cs vs) : ym (q, t, l, cs, vs, z) = some (q, t, l, cs, vs, z) := by
 obtain ⟨h1, h2, h3, h4, h5, h6⟩ := h
 unfold ym zK zA
 simp only [Qn q t h1 h2 (fun n hn => Wi h3 hn), Option.bind_some, List.length_nil, List.nil_append]
 rw [if_pos (by omega)]
 simp only [Option.bind_some]
 rw [if_pos (by omega)]
 simp only [Option.bind_some]
 rw [if_pos (by omega)]
end Go.Proofs.YthgdjjdigalckaaGreat.Pl
namespace Go.Proofs.YthgdjjdigalckaaGreat.Pl
open Go.Proofs.YthgdjjdigalckaaGreat.R Go.Proofs.YthgdjjdigalckaaGreat.XB
def y4x (t : List y0) (l : List ya) (blk id : Int) : Bool × y9 := y0i (VF (zF t) blk) ((y0Y l id).drop 1)
theorem yaL (ks : List y9) : y0i ks [] = (false, (0, 0, 0, 0, 0)) := by
 unfold y0i
 induction ks with
 | nil => rfl
 | cons a ks ih =>
  rw [List.foldl_cons, show y1k [] (false, ((0 : Int), (0 : Int), (0 : Int), (0 : Int), (0 : Int))) a = (false, (0, 0, 0, 0, 0)) by
   unfold y1k ylX ZE
   simp]
  exact ih
theorem qZ (q : List Int) (t : List y0) (l : List ya) (blk id : Int) (ht : TOk t) (hl : l.length ≤ 1048576) : Za (q, t, l, blk, id) = some (ans (y4x t l blk id)) := by
 unfold Za y4x
 have hp := y0D l id hl
 simp only [y0Z l id hl, Option.bind_some]
 generalize y0Y l id = p at hp
 cases p with
 | nil =>
  rw [show List.drop 1 ([] : List Int) = [] from rfl, yaL]
  rfl
 | cons a p =>
  have h1 : (((a :: p).length : Int) == 0) = false := by
   simp only [List.length_cons, beq_eq_false_iff_ne, ne_eq]
   omega
  have h2 : (1 : Int) ≤ ((a :: p).length : Int) := by
   simp only [List.length_cons]
   omega
  have e : jA (q, t, blk, List.drop (Int.toNat (1 : Int)) (List.take (Int.toNat ((a :: p).length : Int)) (a :: p))) = some (ans (y0i (VF (zF t) blk) (List.drop 1 (a :: p)))) := by
   rw [show Int.toNat ((a :: p).length : Int) = (a :: p).length by omega, List.take_length]
   exact y2O q t blk _ ht (by simp only [List.length_drop]; omega)
  simp only [h1, cond_false, h2, Int.le_refl, if_true, e, Option.bind_some]
  rw [if_pos (by omega)]
theorem y85 (q : List Int) (t : List y0) (l : List ya) (blk id : Int) (ht : TOk t) (hl : l.length ≤ 1048576) : jU (q, t, l, blk, id) = some (ans (y4x t l blk id)) := by
 unfold jU y4x
 have hp := y0D l id hl
 simp only [y10 l id hl, Option.bind_some]
 generalize y0Y l id = p at hp
 have e : jt (q, t, blk, List.drop (Int.toNat (if (p.length : Int) < (1 : Int) then (p.length : Int) else (1 : Int))) (List.take (Int.toNat (p.length : Int)) p)) = some (ans (y0i (VF (zF t) blk) (List.drop 1 p))) := by
  rw [show Int.toNat (p.length : Int) = p.length by omega, List.take_length]
  have : List.drop (Int.toNat (if (p.length : Int) < (1 : Int) then (p.length : Int) else (1 : Int))) p = List.drop 1 p := by
   cases p with
   | nil => rfl
   | cons a p =>
    rw [if_neg (by simp only [List.length_cons]; omega)]
    rfl
  rw [this]
  exact y11 q t blk _ ht (by simp only [List.length_drop]; omega)
 rw [if_pos (by split <;> omega), if_pos (by split <;> omega), if_pos (Int.le_refl _), e]
 rfl
def y9k (vs : List ye) (id : Int) : Bool := !YA (kG id) vs 0
theorem y0m (q : List Int) (t : List y0) (l : List ya) (cs : List y7) (vs : List ye) (z id : Int) (hv : vs.length ≤ 1048576) : Kc (q, t, l, cs, vs, z, id) = some (y9k vs id) := by
 unfold Kc y1P y9k
 refine (zP (step := k8 _ _) (fun i => (id, i, q, t, l, cs, vs, z)) (kG id) (some false) (some true) zX vs (by omega) ?_ ?_).trans ?_
 ·intro again i h0 h1
  have hw : Go.IntKind.wrap .i64 (i + 1) = i + 1 := w64 (by omega) (by omega)
  unfold k8 kG
  have hx : vs.getD i.toNat zX = y8 vs i := rfl
  rw [hx]
  simp only [Bool.cond_eq_ite, decide_eq_true_eq, h0, h1, if_true, hw]
 ·intro again i hi
  unfold k8
  simp only [Bool.cond_eq_ite, decide_eq_true_eq, if_neg hi]
 ·cases YA (kG id) vs 0 <;> rfl
def KK (q : List Int) (sp : Int) : Nat → Int
 | 0 => -1
 | n + 1 => if q.getD n 0 ≤ sp then (n : Int) else KK q sp n
def wS (blk age : Int) : Int := Go.IntKind.wrap .i64 (Go.IntKind.wrap .i64 ((64 : Int) * blk) + age)
theorem y5W (q : List Int) (sp : Int) : ∀ n, -1 ≤ KK q sp n ∧ KK q sp n < n
 | 0 => by simp [KK]
 | n + 1 => by
  have := y5W q sp n
  rw [KK]
  split <;> omega
theorem y0n (q : List Int) (t : List y0) (blk age : Int) (hq : q.length ≤ 1048576) : J3 (q, t, blk, age) = some (KK q (wS blk age) q.length) := by
 unfold J3 Qi
 have h := YH (step := wY (fun x2 => some x2)) (fun u : wX => q.length - u.2.2.2.1.toNat) (fun u => ∃ n : Nat, n ≤ q.length ∧ u = (blk, age, KK q (wS blk age) n, (n : Int), q, t)) (fun _ => some (KK q (wS blk age) q.length)) ?_ (blk, age, -1, 0, q, t) ⟨0, by omega, rfl⟩ (by simp; omega)
 ·exact h
 ·rintro again u ⟨n, hn, rfl⟩ hag
  have hw : Go.IntKind.wrap .i64 ((n : Int) + 1) = ((n + 1 : Nat) : Int) := by rw [w64 (by omega) (by omega)]; omega
  unfold wY w7
  have h0 : 0 ≤ (n : Int) := by omega
  by_cases hlt : (n : Int) < (q.length : Int)
  ·have hx : zu q (n : Int) = q.getD n 0 := rfl
   simp only [Bool.cond_eq_ite, decide_eq_true_eq, hlt, h0, if_true, Option.bind_some, hw, hx]
   have e := hag (blk, age, KK q (wS blk age) (n + 1), ((n + 1 : Nat) : Int), q, t) ⟨n + 1, by omega, rfl⟩ (by simp only; omega)
   rw [KK] at e
   unfold wS at e ⊢
   split
   ·rename_i hc
    rw [if_pos hc] at e
    exact e
   ·rename_i hc
    rw [if_neg hc] at e
    exact e
  ·rw [show n = q.length by omega]
   simp
theorem y0o (q : List Int) (t : List y0) (blk age : Int) (hq : q.length ≤ 1048576) : J0 (q, t, blk, age) = some (KK q (wS blk age) q.length) := by
 unfold J0 Qb
 rw [w64 (n := (q.length : Int) - 1) (by omega) (by omega)]
 have h := YH (step := wW (fun x2 => some x2) (fun x3 => some (-1 : Int))) (fun u : wV => (u.2.2.1 + 1).toNat) (fun u => ∃ n : Nat, n ≤ q.length ∧ u = (blk, age, (n : Int) - 1, q, t)) (fun u => some (KK q (wS blk age) (u.2.2.1 + 1).toNat)) ?_ (blk, age, (q.length : Int) - 1, q, t) ⟨q.length, by omega, rfl⟩ (by simp; omega)
 ·rw [h]
  simp only
  rw [show ((q.length : Int) - 1 + 1).toNat = q.length by omega]
 ·rintro again u ⟨n, hn, rfl⟩ hag
  unfold wW Zh
  cases n with
  | zero => simp [KK]
  | succ n =>
   have e1 : ((n + 1 : Nat) : Int) - 1 = (n : Int) := by omega
   have hw : Go.IntKind.wrap .i64 ((n : Int) - 1) = (n : Int) - 1 := w64 (by omega) (by omega)
   have hx : zu q (n : Int) = q.getD n 0 := rfl
   have h0 : 0 ≤ (n : Int) := by omega
   have h1 : (n : Int) < (q.length : Int) := by omega
   rw [e1]
   simp only [Bool.cond_eq_ite, decide_eq_true_eq, ge_iff_le, h0, h1, if_true, Option.bind_some, hw, hx]
   have e := hag (blk, age, (n : Int) - 1, q, t) ⟨n, by omega, rfl⟩ (by simp only; omega)
   rw [e]
   simp only
   rw [show ((n : Int) - 1 + 1).toNat = n by omega, show ((n : Int) + 1).toNat = n + 1 by omega, KK]
   unfold wS
   split <;> rfl
abbrev Ans : Type := Int × Int × Int × Int × Int × Bool
def y9l : Ans := (0, 0, 0, 0, 0, false)
def atP (blk age : Int) (a : y9) : Bool := a.1 == blk && a.2.1 == age
def y9m (a : y9) : Ans := (a.1, a.2.1, a.2.2.1, a.2.2.2.1, a.2.2.2.2, true)
def VG (l : List y9) (blk age : Int) : Ans := if ZE (atP blk age) l 0 < 0 then y9l else y9m (y6 l (ZE (atP blk age) l 0))
theorem y1X (l : List y9) (blk age : Int) (hl : l.length ≤ 1073741824) : We (l, blk, age) = some (VG l blk age) := by
 unfold We y0W VG
 refine (Zw (step := wJ _ _) (fun i => (l, blk, age, i, 0, 0, 0, 0, 0)) (atP blk age) (fun i => some (y9m (y6 l i))) (some y9l) zb l (by omega) ?_ ?_).trans ?_
 ·intro again i h0 h1
  have hw : Go.IntKind.wrap .i64 (i + 1) = i + 1 := w64 (by omega) (by omega)
  unfold wJ atP y9m
  obtain ⟨⟨x1, x2, x3, x4, x5⟩, hx⟩ : ∃ x, y6 l i = x := ⟨_, rfl⟩
  have hx' : l.getD i.toNat zb = (x1, x2, x3, x4, x5) := hx
  rw [hx']
  simp only [Bool.cond_eq_ite, decide_eq_true_eq, h0, h1, if_true, hw, hx]
  cases (x1 == blk) <;> cases (x2 == age) <;> rfl
 ·intro again i hi
  unfold wJ
  simp only [Bool.cond_eq_ite, decide_eq_true_eq, if_neg hi]
  rfl
 ·split <;> rfl
theorem y1Y (l : List y9) (blk age : Int) (hl : l.length ≤ 1073741824) : Wc (l, blk, age) = some (VG l blk age) := by
 unfold Wc y0S VG
 refine (Zw (step := wy _ _) (fun i => (blk, age, l, (l.length : Int), i, 0, 0, 0, 0, 0)) (atP blk age) (fun i => some (y9m (y6 l i))) (some y9l) zb l (by omega) ?_ ?_).trans ?_
 ·intro again i h0 h1
  have hw : Go.IntKind.wrap .i64 (i + 1) = i + 1 := w64 (by omega) (by omega)
  unfold wy atP y9m
  obtain ⟨⟨x1, x2, x3, x4, x5⟩, hx⟩ : ∃ x, y6 l i = x := ⟨_, rfl⟩
  have hx' : l.getD i.toNat zb = (x1, x2, x3, x4, x5) := hx
  rw [hx']
  simp only [Bool.cond_eq_ite, decide_eq_true_eq, h0, h1, if_true, hw, hx]
  cases (x1 == blk) <;> cases (x2 == age) <;> rfl
 ·intro again i hi
  unfold wy
  simp only [Bool.cond_eq_ite, decide_eq_true_eq, if_neg hi]
  rfl
 ·split <;> rfl
def VH (n : List yb) (blk age : Int) : Nat → Ans
 | 0 => y9l
 | m + 1 => if (VG (n.getD m yV) blk age).2.2.2.2.2 = true then (if ((VG (n.getD m yV) blk age).2.2.1 == 0) = true then y9l else VG (n.getD m yV) blk age) else VH n blk age m
theorem y57 (n : List yb) (blk age : Int) (hn : n.length ≤ 1048576) (hs : ∀ s ∈ n, List.length s ≤ 1073741824) : WQ (n, blk, age) = some (VH n blk age n.length) := by
 unfold WQ y02
 rw [w64 (n := (n.length : Int) - 1) (by omega) (by omega)]
 refine (YH (step := WP _ _) (fun u : WO => (u.2.2.1 + 1).toNat) (fun u => ∃ m : Nat, m ≤ n.length ∧ u = (blk, age, (m : Int) - 1, n, 0, 0, 0, 0, 0)) (fun u => some (VH n blk age (u.2.2.1 + 1).toNat)) ?_ (blk, age, (n.length : Int) - 1, n, 0, 0, 0, 0, 0) ⟨n.length, by omega, rfl⟩ (by simp; omega)).trans ?_
 ·rintro again u ⟨m, hm, rfl⟩ hag
  unfold WP
  cases m with
  | zero => rfl
  | succ m =>
   have e1 : ((m + 1 : Nat) : Int) - 1 = (m : Int) := by omega
   have hw : Go.IntKind.wrap .i64 ((m : Int) - 1) = (m : Int) - 1 := w64 (by omega) (by omega)
   have h0 : 0 ≤ (m : Int) := by omega
   have h1 : (m : Int) < (n.length : Int) := by omega
   have e := y1X (yo n (m : Int)) blk age (hs _ (yZ yV n (m : Int) h0 h1))
   have hx : n.getD m yV = yo n (m : Int) := rfl
   rw [e1]
   simp only [Bool.cond_eq_ite, decide_eq_true_eq, ge_iff_le, h0, h1, if_true, Option.bind_some, hw, e]
   have e' := hag (blk, age, (m : Int) - 1, n, 0, 0, 0, 0, 0) ⟨m, by omega, rfl⟩ (by simp only; omega)
   rw [e', show ((m : Int) + 1).toNat = m + 1 by omega, VH, hx]
   simp only
   rw [show ((m : Int) - 1 + 1).toNat = m by omega]
   obtain ⟨r1, r2, r3, r4, r5, r6⟩ := VG (yo n (m : Int)) blk age
   cases r6
   ·rfl
   ·cases h3 : (r3 == 0) <;> simp [h3, y9l]
 ·simp only
  rw [show ((n.length : Int) - 1 + 1).toNat = n.length by omega]
theorem y58 (n : List yb) (blk age : Int) (hn : n.length ≤ 1048576) (hs : ∀ s ∈ n, List.length s ≤ 1073741824) : WB (n, blk, age) = some (VH n blk age n.length) := by
 unfold WB QO
 rw [w64 (n := (n.length : Int) - 1) (by omega) (by omega)]
 refine (YH (step := WA _ _) (fun u : Wz => (u.2.2.1 + 1).toNat) (fun u => ∃ m : Nat, m ≤ n.length ∧ u = (blk, age, (m : Int) - 1, n, 0, 0, 0, 0, 0)) (fun u => some (VH n blk age (u.2.2.1 + 1).toNat)) ?_ (blk, age, (n.length : Int) - 1, n, 0, 0, 0, 0, 0) ⟨n.length, by omega, rfl⟩ (by simp; omega)).trans ?_
 ·rintro again u ⟨m, hm, rfl⟩ hag
  unfold WA
  cases m with
  | zero => rfl
  | succ m =>
   have e1 : ((m + 1 : Nat) : Int) - 1 = (m : Int) := by omega
   have hw : Go.IntKind.wrap .i64 ((m : Int) - 1) = (m : Int) - 1 := w64 (by omega) (by omega)
   have h0 : 0 ≤ (m : Int) := by omega
   have h1 : (m : Int) < (n.length : Int) := by omega
   have e := y1Y (yo n (m : Int)) blk age (hs _ (yZ yV n (m : Int) h0 h1))
   have hx : n.getD m yV = yo n (m : Int) := rfl
   rw [e1]
   simp only [Bool.cond_eq_ite, decide_eq_true_eq, ge_iff_le, h0, h1, if_true, Option.bind_some, hw, e]
   have e' := hag (blk, age, (m : Int) - 1, n, 0, 0, 0, 0, 0) ⟨m, by omega, rfl⟩ (by simp only; omega)
   rw [e', show ((m : Int) + 1).toNat = m + 1 by omega, VH, hx]
   simp only
   rw [show ((m : Int) - 1 + 1).toNat = m by omega]
   obtain ⟨r1, r2, r3, r4, r5, r6⟩ := VG (yo n (m : Int)) blk age
   cases r6
   ·rfl
   ·cases h3 : (r3 == 0) <;> simp [h3, y9l]
 ·simp only
  rw [show ((n.length : Int) - 1 + 1).toNat = n.length by omega]
def jC (q : List Int) (t : List y0) (blk age : Int) : Ans :=
 if inR (KK q (wS blk age) q.length) 0 ((t.length : Int) - 1) = true then VH (yf t (KK q (wS blk age) q.length)) blk age (yf t (KK q (wS blk age) q.length)).length else y9l
theorem J7 (q : List Int) (t : List y0) (blk age : Int) (ht : TOk t) (hq : q.length ≤ 1048576) : jz (q, t, blk, age) = some (jC q t blk age) := by
 unfold jz jC
 have hlen := ht.len
 rw [w64 (n := (t.length : Int) - 1) (by omega) (by omega)]
 simp only [y0n q t blk age hq, Yz, Option.bind_some]
 generalize KK q (wS blk age) q.length = i
 by_cases h : inR i 0 ((t.length : Int) - 1) = true
 ·obtain ⟨h0, h1⟩ := Z6.1 h
  have hmem : yf t i ∈ t := yZ yz t i h0 (by omega)
  obtain ⟨a1, a2⟩ := ht.node hmem
  have e := y57 (yf t i) blk age a1 (fun s hs => by have := a2 s hs; omega)
  rw [h, if_pos h0, if_pos (by omega), e]
  rfl
 ·have : inR i 0 ((t.length : Int) - 1) = false := by simpa using h
  rw [this]
  rfl
theorem y16 (q : List Int) (t : List y0) (blk age : Int) (ht : TOk t) (hq : q.length ≤ 1048576) : w5 (q, t, blk, age) = some (jC q t blk age) := by
 unfold w5 jC
 have hlen := ht.len
 rw [w64 (n := (t.length : Int) - 1) (by omega) (by omega)]
 simp only [y0o q t blk age hq, YJ, Option.bind_some]
 generalize KK q (wS blk age) q.length = i
 by_cases h : inR i 0 ((t.length : Int) - 1) = true
 ·obtain ⟨h0, h1⟩ := Z6.1 h
  have hmem : yf t i ∈ t := yZ yz t i h0 (by omega)
  obtain ⟨a1, a2⟩ := ht.node hmem
  have e := y58 (yf t i) blk age a1 (fun s hs => by have := a2 s hs; omega)
  rw [h, if_pos h0, if_pos (by omega), e]
  rfl
 ·have : inR i 0 ((t.length : Int) - 1) = false := by simpa using h
  rw [this]
  rfl
end Go.Proofs.YthgdjjdigalckaaGreat.Pl
namespace Go.Proofs.YthgdjjdigalckaaGreat.Pl
open Go.Proofs.YthgdjjdigalckaaGreat.R Go.Proofs.YthgdjjdigalckaaGreat.XB
structure NS (n : List yb) : Prop where
 len : n.length ≤ 1000
 sum : Wg Vo n ≤ 1000
theorem NS.mem {n : List yb} (h : NS n) {s : yb} (hs : s ∈ n) : List.length s ≤ 1000 := by
 have h1 := (y0z Kf hs).1
 have h2 := h.sum
 have h3 : Vo s = (List.length s : Int) := rfl
 omega
theorem NS.q {n : List yb} (h : NS n) : y35 n := ⟨Nat.le_trans h.len (by decide), fun b hb => Nat.le_trans (h.mem hb) (by decide)⟩
theorem NS.keys {n : List yb} (h : NS n) : (z3 n).length ≤ 1000 := by
 have h1 := Vg n
 have h2 := h.sum
 omega
def kI (n : List yb) : yb := n.getD (n.length - 1) yV
theorem y9n {n : List yb} (h : 0 < n.length) : kI n ∈ n := by
 unfold kI
 rw [y1n _ _ _ (by omega)]
 exact List.getElem_mem _
def kJ (n : List yb) (k : y9) : List yb :=
 if 0 < n.length ∧ (List.length (kI n) < 4 ∨ (VG (kI n) k.1 k.2.1).2.2.2.2.2 = true) then n.set (n.length - 1) (wl (kI n) k) else n ++ [[k]]
def Ja (n : List yb) (k : y9) : List y9 := y4k (wl (z3 n) k)
def zr (n : List yb) (k : y9) : List yb × Bool :=
 if YB (kJ n k) = true then (kJ n k, true) else if (Ja n k).length > 8 then (n, false) else if YB (zt (Ja n k)) = true then (zt (Ja n k), true) else (n, false)
theorem yeC (l : List y9) : (y4k l).length ≤ l.length := by
 have := y4l l []
 simpa [y4k] using this
theorem y1Z (n : List yb) (k : y9) : (Ja n k).length ≤ (z3 n).length + 1 := by
 have h1 := yeC (wl (z3 n) k)
 have h2 := wh (z3 n) k
 unfold Ja
 omega
theorem JY (l : List y9) (h : l.length ≤ 1048576) : yP l = some (zt l) := by
 unfold yP zt
 by_cases h0 : l.length = 0
 ·rw [if_pos h0, show (((List.length l : Nat) : Int) == 0) = true from beq_iff_eq.2 (by omega)]
  rfl
 ·rw [if_neg h0, show (((List.length l : Nat) : Int) == 0) = false from beq_eq_false_iff_ne.2 (by omega), cond_false, if_pos (by simp only [List.length_nil]; omega)]
  rfl
theorem kK (l : List y9) (h : l.length ≤ 1048576) : zn l = some (zt l) := by
 unfold zn zt
 by_cases h0 : l.length = 0
 ·rw [if_pos h0, show (((List.length l : Nat) : Int) == 0) = true from beq_iff_eq.2 (by omega)]
  rfl
 ·rw [if_neg h0, show (((List.length l : Nat) : Int) == 0) = false from beq_eq_false_iff_ne.2 (by omega), cond_false, KX l h]
  rfl
theorem qB {l : List y9} (h : l.length ≤ 1000) : NS (zt l) := by
 unfold zt
 split
 ·exact ⟨by simp, by simp [Wg]⟩
 ·exact ⟨by simp, by simp [Wg, Vo]; omega⟩
theorem y4y (l : List y9) : (zt l).length ≤ 1 ∧ Wg Vo (zt l) ≤ l.length := by
 unfold zt
 split
 ·exact ⟨by simp, by simp [Wg]⟩
 ·exact ⟨by simp, by simp [Wg, Vo]⟩
theorem ym1 {n : List yb} (i : Nat) (s : yb) (hi : i < n.length) : Wg Vo (n.set i s) = Wg Vo n - Vo (n.getD i yV) + Vo s := by
 induction n generalizing i with
 | nil => simp at hi
 | cons a n ih =>
  cases i with
  | zero =>
   rw [List.set_cons_zero, Yb, Yb]
   simp
   omega
  | succ i =>
   rw [List.set_cons_succ, Yb, Yb, ih i (by simpa using hi), List.getD_cons_succ]
   omega
theorem y20 {A : Type} (w : A → Int) (l : List A) (a : A) : Wg w (l ++ [a]) = Wg w l + w a := by
 induction l with
 | nil => simp [Wg]
 | cons b l ih =>
  rw [List.cons_append, Yb, Yb, ih]
  omega
theorem y2r (n : List yb) (k : y9) : (kJ n k).length ≤ n.length + 1 ∧ Wg Vo (kJ n k) ≤ Wg Vo n + 1 := by
 unfold kJ
 split
 ·rename_i h
  have h1 := wh (kI n) k
  have h2 : Vo (wl (kI n) k) ≤ Vo (kI n) + 1 := by
   unfold Vo
   have : List.length (wl (kI n) k) ≤ List.length (kI n) + 1 := h1
   omega
  rw [List.length_set, ym1 _ _ (by omega)]
  have e : n.getD (n.length - 1) yV = kI n := rfl
  rw [e]
  constructor <;> omega
 ·rw [y20, List.length_append]
  have e : Vo [k] = 1 := rfl
  rw [e]
  exact ⟨Nat.le_refl _, Int.le_refl _⟩
theorem NS.small {n : List yb} (h1 : n.length ≤ 1001) (h2 : Wg Vo n ≤ 1001) : n.length ≤ 1073741824 ∧ ∀ s ∈ n, List.length s ≤ 1073741824 := by
 refine ⟨by omega, fun s hs => ?_⟩
 have h3 := (y0z Kf hs).1
 have h4 : Vo s = (List.length s : Int) := rfl
 omega
section
variable (n : List yb) (a b c d e : Int) (h : NS n)
include h
theorem y0p : YR (n, a, b, c, d, e) = some (zr n (a, b, c, d, e)) := by
 have hk := h.keys
 have hl := h.len
 have hs := h.sum
 have hW := y1Z n (a, b, c, d, e)
 have hN := y4y (Ja n (a, b, c, d, e))
 have hN2 := NS.small (n := zt (Ja n (a, b, c, d, e))) (by omega) (by omega)
 have hO := y2r n (a, b, c, d, e)
 have hO2 := NS.small (n := kJ n (a, b, c, d, e)) (by omega) (by omega)
 have hw : Go.IntKind.wrap .i64 ((n.length : Int) - 1) = (n.length : Int) - 1 := w64 (by omega) (by omega)
 have hT : ∀ out, out = kJ n (a, b, c, d, e) → (Option.bind (zi out) fun r6 => bif r6 then some (out, true) else Option.bind (yA n) fun r7 => Option.bind (zq (r7, a, b, c, d, e)) fun r8 => Option.bind (Y4 r8) fun r9 => bif (decide (((List.length r9 : Nat) : Int) > (8 : Int))) then some (n, false) else Option.bind (yP r9) fun r11 => Option.bind (zi r11) fun r12 => bif (!r12) then some (n, false) else Option.bind (yP r9) fun r14 => some (r14, true)) = some (zr n (a, b, c, d, e)) := by
  rintro out rfl
  have e1 : Y4 (wl (z3 n) (a, b, c, d, e)) = some (Ja n (a, b, c, d, e)) := y0h _ (by have := wh (z3 n) (a, b, c, d, e); omega)
  simp only [VR _ hO2.1 hO2.2, Zc n (by omega) (by omega), wP (z3 n) a b c d e (by omega), e1, JY (Ja n (a, b, c, d, e)) (by omega), VR _ hN2.1 hN2.2, Option.bind_some]
  unfold zr
  cases YB (kJ n (a, b, c, d, e)) with
  | true => rfl
  | false =>
   by_cases h8 : (Ja n (a, b, c, d, e)).length > 8
   ·rw [decide_eq_true (show ((List.length (Ja n (a, b, c, d, e)) : Nat) : Int) > 8 by omega), if_pos h8]
    rfl
   ·rw [decide_eq_false (show ¬ ((List.length (Ja n (a, b, c, d, e)) : Nat) : Int) > 8 by omega), if_neg h8]
    cases YB (zt (Ja n (a, b, c, d, e))) <;> rfl
 unfold YR
 simp only [VW n h.q, Option.bind_some, hw]
 by_cases h0 : n.length = 0
 ·have e1 : ¬ (0 < n.length ∧ (List.length (kI n) < 4 ∨ (VG (kI n) a b).2.2.2.2.2 = true)) := fun hh => by omega
  simp only [decide_eq_false (show ¬ ((n.length : Int) - 1 ≥ 0) by omega), cond_false, Option.bind_some]
  rw [if_pos (by simp only [List.length_cons, List.length_nil]; omega)]
  exact hT _ (by unfold kJ; rw [if_neg e1])
 ·have i0 : 0 ≤ (n.length : Int) - 1 := by omega
  have i1 : (n.length : Int) - 1 < ((List.length n : Nat) : Int) := by omega
  have hlm := h.mem (y9n (n := n) (by omega))
  have erd : yo n ((n.length : Int) - 1) = kI n := by
   show n.getD ((n.length : Int) - 1).toNat yV = n.getD (n.length - 1) yV
   congr 1
   omega
  have etn : ((n.length : Int) - 1).toNat = n.length - 1 := by omega
  rw [decide_eq_true (show (n.length : Int) - 1 ≥ 0 from i0)]
  simp only [cond_true, i0, i1, if_true, erd, etn, y1X (kI n) a b (by omega), wP (kI n) a b c d e (by omega), Option.bind_some]
  by_cases h4 : List.length (kI n) < 4
  ·rw [decide_eq_true (show ((List.length (kI n) : Nat) : Int) < 4 by omega)]
   exact hT _ (by unfold kJ; rw [if_pos ⟨by omega, .inl h4⟩])
  ·rw [decide_eq_false (show ¬ ((List.length (kI n) : Nat) : Int) < 4 by omega)]
   cases hA : (VG (kI n) a b).2.2.2.2.2 with
   | true => exact hT _ (by unfold kJ; rw [if_pos ⟨by omega, .inr hA⟩])
   | false =>
    simp only [cond_false, Option.bind_some]
    rw [if_pos (by simp only [List.length_cons, List.length_nil]; omega)]
    exact hT _ (by
     unfold kJ
     rw [if_neg fun hh => ?_]
     rcases hh.2 with hh | hh
     ·exact h4 hh
     ·rw [hA] at hh
      cases hh)
theorem Qp : zL (n, a, b, c, d, e) = some (Ja n (a, b, c, d, e)) := by
 have hk := h.keys
 have hl := h.len
 have hs := h.sum
 have e1 : Jp (wl (z3 n) (a, b, c, d, e)) = some (Ja n (a, b, c, d, e)) := y2N _ (by have := wh (z3 n) (a, b, c, d, e); omega)
 unfold zL
 simp only [jV n (by omega) (by omega), VQ (z3 n) a b c d e (by omega), e1, Option.bind_some]
theorem y4z : wz (n, a, b, c, d, e) = some (zr n (a, b, c, d, e)) := by
 have hk := h.keys
 have hl := h.len
 have hs := h.sum
 have hW := y1Z n (a, b, c, d, e)
 have hN := y4y (Ja n (a, b, c, d, e))
 have hN2 := NS.small (n := zt (Ja n (a, b, c, d, e))) (by omega) (by omega)
 have hO := y2r n (a, b, c, d, e)
 have hO2 := NS.small (n := kJ n (a, b, c, d, e)) (by omega) (by omega)
 have hw : Go.IntKind.wrap .i64 ((n.length : Int) - 1) = (n.length : Int) - 1 := w64 (by omega) (by omega)
 have hT : ∀ out, out = kJ n (a, b, c, d, e) → (Option.bind (zB out) fun r5 => bif r5 then some (out, true) else Option.bind (zL (n, a, b, c, d, e)) fun r6 => Option.bind (zn r6) fun r7 => Option.bind (bif (decide (((List.length r6 : Nat) : Int) > (8 : Int))) then some true else Option.bind (zB r7) fun r9 => some (!r9)) fun u8 => bif u8 then some (n, false) else some (r7, true)) = some (zr n (a, b, c, d, e)) := by
  rintro out rfl
  simp only [VS _ hO2.1 hO2.2, Qp n a b c d e h, kK (Ja n (a, b, c, d, e)) (by omega), VS _ hN2.1 hN2.2, Option.bind_some]
  unfold zr
  cases YB (kJ n (a, b, c, d, e)) with
  | true => rfl
  | false =>
   by_cases h8 : (Ja n (a, b, c, d, e)).length > 8
   ·rw [decide_eq_true (show ((List.length (Ja n (a, b, c, d, e)) : Nat) : Int) > 8 by omega), if_pos h8]
    rfl
   ·rw [decide_eq_false (show ¬ ((List.length (Ja n (a, b, c, d, e)) : Nat) : Int) > 8 by omega), if_neg h8]
    cases YB (zt (Ja n (a, b, c, d, e))) <;> rfl
 unfold wz
 simp only [KY n h.q, Option.bind_some, hw]
 by_cases h0 : n.length = 0
 ·have e1 : ¬ (0 < n.length ∧ (List.length (kI n) < 4 ∨ (VG (kI n) a b).2.2.2.2.2 = true)) := fun hh => by omega
  simp only [decide_eq_false (show ¬ ((n.length : Int) - 1 ≥ 0) by omega), cond_false, Option.bind_some]
  rw [if_pos (by simp only [List.length_cons, List.length_nil]; omega)]
  exact hT _ (by unfold kJ; rw [if_neg e1])
 ·have i0 : 0 ≤ (n.length : Int) - 1 := by omega
  have i1 : (n.length : Int) - 1 < ((List.length n : Nat) : Int) := by omega
  have hlm := h.mem (y9n (n := n) (by omega))
  have erd : yo n ((n.length : Int) - 1) = kI n := by
   show n.getD ((n.length : Int) - 1).toNat yV = n.getD (n.length - 1) yV
   congr 1
   omega
  have etn : ((n.length : Int) - 1).toNat = n.length - 1 := by omega
  rw [decide_eq_true (show (n.length : Int) - 1 ≥ 0 from i0)]
  simp only [cond_true, i0, i1, if_true, erd, etn, y1Y (kI n) a b (by omega), VQ (kI n) a b c d e (by omega), Option.bind_some]
  cases hA : (VG (kI n) a b).2.2.2.2.2 with
  | true => exact hT _ (by unfold kJ; rw [if_pos ⟨by omega, .inr hA⟩])
  | false =>
   by_cases h4 : List.length (kI n) < 4
   ·rw [decide_eq_true (show ((List.length (kI n) : Nat) : Int) < 4 by omega)]
    exact hT _ (by unfold kJ; rw [if_pos ⟨by omega, .inl h4⟩])
   ·rw [decide_eq_false (show ¬ ((List.length (kI n) : Nat) : Int) < 4 by omega)]
    simp only [cond_false, Option.bind_some]
    rw [if_pos (by simp only [List.length_cons, List.length_nil]; omega)]
    exact hT _ (by
     unfold kJ
     rw [if_neg fun hh => ?_]
     rcases hh.2 with hh | hh
     ·exact h4 hh
     ·rw [hA] at hh
      cases hh)
end
end Go.Proofs.YthgdjjdigalckaaGreat.Pl
namespace Go.Proofs.YthgdjjdigalckaaGreat.Pl
open Go.Proofs.YthgdjjdigalckaaGreat.R Go.Proofs.YthgdjjdigalckaaGreat.XB
structure TS (t : List y0) : Prop where
 len : t.length ≤ 100
 node : ∀ n ∈ t, NS n
theorem TS.ok {t : List y0} (h : TS t) : TOk t := by
 have hl := h.len
 refine ⟨by omega, fun n hn => Nat.le_trans (h.node n hn).len (by decide), ?_⟩
 have hb : ∀ (t : List y0), (∀ n ∈ t, NS n) → Wg Qr t ≤ 2000 * t.length := by
  intro t
  induction t with
  | nil => intro _; simp [Wg]
  | cons a t ih =>
   intro hn
   have h1 := ih fun n h => hn n (by simp [h])
   have h2 := hn a (by simp)
   have h3 : Qr a = (List.length a : Int) + Wg Vo a := rfl
   have h4 : List.length a ≤ 1000 := h2.len
   have h5 : Wg Vo a ≤ 1000 := h2.sum
   rw [Yb, List.length_cons]
   omega
 have := hb t h.node
 omega
def zz {A : Type} (l : List A) (i c : Nat) (m : List A) : List A := l.take i ++ m ++ l.drop (i + c)
theorem wi {A : Type} (l : List A) (i c : Nat) (m : List A) (h : i + c ≤ l.length) : (zz l i c m).length = l.length + m.length - c := by
 unfold zz
 simp only [List.length_append, List.length_take, List.length_drop]
 omega
theorem ycR {A : Type} {l : List A} {i c : Nat} {m : List A} {x : A} (h : x ∈ zz l i c m) : x ∈ l ∨ x ∈ m := by
 unfold zz at h
 rcases List.mem_append.1 h with h | h
 ·rcases List.mem_append.1 h with h | h
  ·exact .inl (List.mem_of_mem_take h)
  ·exact .inr h
 ·exact .inl (List.mem_of_mem_drop h)
theorem y5X {A : Type} (l : List A) (i : Nat) (x : A) (h : i < l.length) : zz l i 1 [x] = l.set i x := by
 unfold zz
 rw [List.set_eq_take_append_cons_drop, if_pos h]
 simp
theorem ycS {A : Type} (d : A) (l : List A) (i : Nat) (h : i + 2 ≤ l.length) : zz l i 2 [l.getD i d] = l.take (i + 1) ++ l.drop (i + 2) := by
 unfold zz
 rw [y1n _ _ _ (by omega), List.take_succ_eq_append_getElem (by omega)]
theorem TS.splice {t : List y0} (h : TS t) {i c : Nat} {m : List y0} (hl : (zz t i c m).length ≤ 100) (hm : ∀ n ∈ m, NS n) : TS (zz t i c m) :=
 ⟨hl, fun n hn => (ycR hn).elim (h.node n) (hm n)⟩
theorem Q0 (q : List Int) (t : List y0) (i : Int) (ql : List Int) (tl : List y0) (h0 : 0 ≤ i) (h1 : i < (q.length : Int)) (h2 : i < (t.length : Int)) (hq : q.length ≤ 1000) (ht : t.length ≤ 1000) (hql : ql.length ≤ 1000) (htl : tl.length ≤ 1000) :
  JK (q, t, i, ql, tl) = some (zz q i.toNat 1 ql, zz t i.toNat 1 tl) := by
 have hw : Go.IntKind.wrap .i64 (i + 1) = i + 1 := w64 (by omega) (by omega)
 have e1 : (i + 1).toNat = i.toNat + 1 := by omega
 unfold JK
 simp only [hw]
 iterate 18 rw [if_pos (by first | omega | (simp only [List.length_append, List.length_drop, List.length_take, List.length_nil]; omega))]
 simp [zz, e1]
theorem KZ (q : List Int) (t : List y0) (i c : Int) (ql : List Int) (tl : List y0) (h0 : 0 ≤ i) (hc : 0 ≤ c) (h1 : i + c ≤ (q.length : Int)) (h2 : i + c ≤ (t.length : Int)) (hq : q.length ≤ 1000) (ht : t.length ≤ 1000) (hql : ql.length ≤ 1000) (htl : tl.length ≤ 1000) :
  Y2 (q, t, i, c, ql, tl) = some (zz q i.toNat c.toNat ql, zz t i.toNat c.toNat tl) := by
 have hw : Go.IntKind.wrap .i64 (i + c) = i + c := w64 (by omega) (by omega)
 have e1 : (i + c).toNat = i.toNat + c.toNat := by omega
 have e2 : List.drop (Int.toNat 0) (List.take (Int.toNat i) q) = q.take i.toNat := rfl
 unfold Y2
 simp only [hw]
 iterate 3 rw [if_pos (by omega)]
 rw [e2, Qm _ (by rw [List.length_take]; omega)]
 simp only [Option.bind_some]
 iterate 14 rw [if_pos (by first | omega | (simp only [List.length_append, List.length_drop, List.length_take, List.length_nil]; omega))]
 simp [zz, e1]
def z5 : List y0 → Int → Int
 | a :: b :: r, i => if (z3 a).length + (z3 b).length ≤ 6 then i else z5 (b :: r) (i + 1)
 | _, _ => -1
theorem y4A (l : List y0) (i : Int) (h : l.length ≤ 1) : z5 l i = -1 := by
 match l, h with
 | [], _ => rfl
 | [_], _ => rfl
theorem y5Y : ∀ (l : List y0) (i : Int), z5 l i = -1 ∨ i ≤ z5 l i ∧ z5 l i + 2 ≤ i + l.length ∧ (z3 (l.getD (z5 l i - i).toNat yz)).length + (z3 (l.getD (z5 l i - i + 1).toNat yz)).length ≤ 6
 | [], _ => .inl rfl
 | [_], _ => .inl rfl
 | a :: b :: r, i => by
  rw [z5]
  by_cases h : (z3 a).length + (z3 b).length ≤ 6
  ·rw [if_pos h]
   refine .inr ⟨Int.le_refl _, by simp only [List.length_cons]; omega, ?_⟩
   rw [show (i - i).toNat = 0 by omega, show (i - i + 1).toNat = 1 by omega]
   exact h
  ·rw [if_neg h]
   rcases y5Y (b :: r) (i + 1) with h1 | ⟨h1, h2, h3⟩
   ·exact .inl h1
   ·refine .inr ⟨by omega, by simp only [List.length_cons] at h2 ⊢; omega, ?_⟩
    rw [show (z5 (b :: r) (i + 1) - i).toNat = (z5 (b :: r) (i + 1) - (i + 1)).toNat + 1 by omega, show (z5 (b :: r) (i + 1) - i + 1).toNat = (z5 (b :: r) (i + 1) - (i + 1) + 1).toNat + 1 by omega, List.getD_cons_succ, List.getD_cons_succ]
    exact h3
theorem ybR (t : List y0) (i : Int) (h0 : 0 ≤ i) (h1 : i + 1 < (t.length : Int)) : z5 (t.drop i.toNat) i = if (z3 (yf t i)).length + (z3 (yf t (i + 1))).length ≤ 6 then i else z5 (t.drop (i + 1).toNat) (i + 1) := by
 rw [wO yz t i h0 (by omega), wO yz t (i + 1) (by omega) h1, z5]
 rfl
theorem nk {t : List y0} (h : TS t) {i : Int} (h0 : 0 ≤ i) (h1 : i < (t.length : Int)) : NS (yf t i) := h.node _ (yZ yz t i h0 h1)
theorem Vk {t : List y0} (h : TS t) {i : Int} (h0 : 0 ≤ i) (h1 : i < (t.length : Int)) : yA (yf t i) = some (z3 (yf t i)) := by
 have hn := nk h h0 h1
 exact Zc _ (Nat.le_trans hn.len (by decide)) (Int.le_trans hn.sum (by decide))
theorem y4B {t : List y0} (h : TS t) {i : Int} (h0 : 0 ≤ i) (h1 : i < (t.length : Int)) : yK (yf t i) = some (z3 (yf t i)) := by
 have hn := nk h h0 h1
 exact jV _ (Nat.le_trans hn.len (by decide)) (Int.le_trans hn.sum (by decide))
theorem y2Q (q : List Int) (t : List y0) (h : TS t) : wc (q, t) = some (z5 t 0) := by
 have hl := h.len
 unfold wc y00
 refine YH (step := WM _ _) (fun x : Int × List Int × List y0 => t.length - x.1.toNat) (fun x => x.2.2 = t ∧ 0 ≤ x.1 ∧ x.1 ≤ (t.length : Int)) (fun x => some (z5 (t.drop x.1.toNat) x.1)) ?_ (0, q, t) ⟨rfl, Int.le_refl _, by simp⟩ (by simp; omega)
 rintro again ⟨i, q', t'⟩ ⟨rfl, i0, i1⟩ hag
 simp only at i0 i1 hl h ⊢
 unfold WM
 by_cases hi : i + 1 < (t'.length : Int)
 ·have hw : Go.IntKind.wrap .i64 (i + 1) = i + 1 := w64 (by omega) (by omega)
  have k1 := nk h i0 (show i < (t'.length : Int) by omega)
  have k2 := nk h (show 0 ≤ i + 1 by omega) hi
  have hw2 : Go.IntKind.wrap .i64 (((List.length (z3 (yf t' i)) : Nat) : Int) + ((List.length (z3 (yf t' (i + 1))) : Nat) : Int)) = ((List.length (z3 (yf t' i)) : Nat) : Int) + ((List.length (z3 (yf t' (i + 1))) : Nat) : Int) := w64 (by omega) (by have := k1.keys; have := k2.keys; omega)
  simp only [hw, Vk h i0 (show i < (t'.length : Int) by omega), Vk h (show 0 ≤ i + 1 by omega) hi, Option.bind_some, hw2]
  rw [decide_eq_true hi, cond_true, if_pos i0, if_pos (by omega), if_pos (by omega), if_pos hi, ybR t' i i0 hi]
  by_cases h6 : (z3 (yf t' i)).length + (z3 (yf t' (i + 1))).length ≤ 6
  ·rw [decide_eq_true (show ((List.length (z3 (yf t' i)) : Nat) : Int) + ((List.length (z3 (yf t' (i + 1))) : Nat) : Int) ≤ 6 by omega), if_pos h6]
   rfl
  ·rw [decide_eq_false (show ¬ ((List.length (z3 (yf t' i)) : Nat) : Int) + ((List.length (z3 (yf t' (i + 1))) : Nat) : Int) ≤ 6 by omega), if_neg h6]
   exact hag _ ⟨rfl, by simp only; omega, by simp only; omega⟩ (by simp only; omega)
 ·have hw : ¬ Go.IntKind.wrap .i64 (i + 1) < (t'.length : Int) := by
   rw [w64 (by omega) (by omega)]
   exact hi
  rw [decide_eq_false hw, y4A _ _ (by rw [List.length_drop]; omega)]
  rfl
def W6 : Nat → List Int → List y0 → List Int × List y0
 | 0, q, t => (q, t)
 | m + 1, q, t => if z5 t 0 < 0 then (q, t) else W6 m (zz q (z5 t 0).toNat 2 [q.getD (z5 t 0).toNat 0]) (zz t (z5 t 0).toNat 2 [zt (z3 (t.getD (z5 t 0).toNat yz) ++ z3 (t.getD (z5 t 0 + 1).toNat yz))])
section
variable {q : List Int} {t : List y0} (h : TS t) (hq : q.length = t.length) (hp : ¬ z5 t 0 < 0)
include h hp
omit h in
theorem y86 : 0 ≤ z5 t 0 ∧ z5 t 0 + 2 ≤ (t.length : Int) ∧ (z3 (yf t (z5 t 0))).length + (z3 (yf t (z5 t 0 + 1))).length ≤ 6 := by
 rcases y5Y t 0 with h1 | ⟨h1, h2, h3⟩
 ·omega
 ·refine ⟨h1, by omega, ?_⟩
  rw [Int.sub_zero] at h3
  exact h3
theorem yaM : TS (zz t (z5 t 0).toNat 2 [zt (z3 (yf t (z5 t 0)) ++ z3 (yf t (z5 t 0 + 1)))]) := by
 obtain ⟨h1, h2, h3⟩ := y86 hp
 have hl := h.len
 refine h.splice (by rw [wi _ _ _ _ (by omega)]; simp only [List.length_cons, List.length_nil]; omega) fun n hn => ?_
 obtain rfl := List.mem_singleton.1 hn
 exact qB (by rw [List.length_append]; omega)
include hq
theorem ybS : (zz t (z5 t 0).toNat 2 [zt (z3 (yf t (z5 t 0)) ++ z3 (yf t (z5 t 0 + 1)))]).length = t.length - 1 ∧ (zz q (z5 t 0).toNat 2 [q.getD (z5 t 0).toNat 0]).length = t.length - 1 := by
 obtain ⟨h1, h2, h3⟩ := y86 hp
 rw [wi _ _ _ _ (by omega), wi _ _ _ _ (by omega)]
 simp only [List.length_cons, List.length_nil]
 omega
theorem y5Z : W6 t.length q t = W6 (t.length - 1) (zz q (z5 t 0).toNat 2 [q.getD (z5 t 0).toNat 0]) (zz t (z5 t 0).toNat 2 [zt (z3 (yf t (z5 t 0)) ++ z3 (yf t (z5 t 0 + 1)))]) := by
 obtain ⟨h1, h2, h3⟩ := y86 hp
 rw [show t.length = (t.length - 1) + 1 by omega, W6, if_neg hp]
 rfl
end
theorem y9o {q : List Int} {t : List y0} (m : Nat) (hp : z5 t 0 < 0) : W6 m q t = (q, t) := by
 cases m with
 | zero => rfl
 | succ m => rw [W6, if_pos hp]
theorem y9p (q : List Int) (t : List y0) (h : TS t) (hq : q.length = t.length) : Zr (q, t) = some (W6 t.length q t) := by
 have hl := h.len
 unfold Zr y01
 simp only [y2Q q t h, Option.bind_some]
 refine YH (step := WN _) (fun x : Int × List Int × List y0 => x.2.2.length) (fun x => TS x.2.2 ∧ x.2.1.length = x.2.2.length ∧ x.1 = z5 x.2.2 0) (fun x => some (W6 x.2.2.length x.2.1 x.2.2)) ?_ (z5 t 0, q, t) ⟨h, hq, rfl⟩ (by simp only; omega)
 rintro again ⟨i, q, t⟩ ⟨h, hq, hi⟩ hag
 simp only at h hq hi ⊢
 subst hi
 have hl := h.len
 unfold WN
 by_cases hp : z5 t 0 < 0
 ·rw [decide_eq_false (show ¬ z5 t 0 ≥ 0 by omega), y9o _ hp]
  rfl
 ·obtain ⟨h1, h2, h3⟩ := y86 hp
  have hw : Go.IntKind.wrap .i64 (z5 t 0 + 1) = z5 t 0 + 1 := w64 (by omega) (by omega)
  have hw2 : Go.IntKind.wrap .i64 (z5 t 0 + 2) = z5 t 0 + 2 := w64 (by omega) (by omega)
  have hT := yaM h hp
  have hL := ybS h hq hp
  have eq1 : ([] ++ List.drop (Int.toNat 0) (List.take (Int.toNat (z5 t 0 + 1)) q)) ++ List.drop (Int.toNat (z5 t 0 + 2)) (List.take (Int.toNat (q.length : Int)) q) = zz q (z5 t 0).toNat 2 [q.getD (z5 t 0).toNat 0] := by
   rw [ycS 0 q _ (by omega), show (z5 t 0 + 1).toNat = (z5 t 0).toNat + 1 by omega, show (z5 t 0 + 2).toNat = (z5 t 0).toNat + 2 by omega]
   simp
  have eq2 : ∀ n : y0, (([] ++ List.drop (Int.toNat 0) (List.take (Int.toNat (z5 t 0)) t)) ++ [n]) ++ List.drop (Int.toNat (z5 t 0 + 2)) (List.take (Int.toNat (t.length : Int)) t) = zz t (z5 t 0).toNat 2 [n] := fun n => by
   rw [show (z5 t 0 + 2).toNat = (z5 t 0).toNat + 2 by omega]
   simp [zz]
  simp only [hw, hw2, Vk h h1 (show z5 t 0 < (t.length : Int) by omega), Vk h (show 0 ≤ z5 t 0 + 1 by omega) (show z5 t 0 + 1 < (t.length : Int) by omega), JY (z3 (yf t (z5 t 0)) ++ z3 (yf t (z5 t 0 + 1))) (by rw [List.length_append]; omega), Option.bind_some, eq1, eq2, y2Q _ _ hT]
  rw [decide_eq_true (show z5 t 0 ≥ 0 from h1), cond_true]
  iterate 22 rw [if_pos (by first | omega | (simp only [List.length_append, List.length_drop, List.length_take, List.length_nil, List.length_cons]; omega))]
  rw [y5Z h hq hp, ← hL.1]
  exact hag (z5 (zz t (z5 t 0).toNat 2 [zt (z3 (yf t (z5 t 0)) ++ z3 (yf t (z5 t 0 + 1)))]) 0, zz q (z5 t 0).toNat 2 [q.getD (z5 t 0).toNat 0], zz t (z5 t 0).toNat 2 [zt (z3 (yf t (z5 t 0)) ++ z3 (yf t (z5 t 0 + 1)))]) ⟨hT, hL.2.trans hL.1.symm, rfl⟩ (by simp only; omega)
theorem y59 (q : List Int) (t : List y0) (h : TS t) (hq : q.length = t.length) : Zk (q, t) = some (W6 t.length q t) := by
 have hl := h.len
 unfold Zk QN
 have key : ∀ (i : Int) (q : List Int) (t : List y0) (k1 k2 : Int × List Int × List y0 → Option (List Int × List y0)), TS t → q.length = t.length → 0 ≤ i → i ≤ (t.length : Int) → z5 t 0 = z5 (t.drop i.toNat) i →
   (∀ i' q' t', TS t' → q'.length = t'.length → 0 ≤ i' → i' ≤ (t'.length : Int) → z5 t' 0 = z5 (t'.drop i'.toNat) i' → t'.length * 1000 + (t'.length - i'.toNat) < t.length * 1000 + (t.length - i.toNat) → k1 (i', q', t') = some (W6 t'.length q' t') ∧ k2 (i', q', t') = some (W6 t'.length q' t')) →
   (bif (decide ((Go.IntKind.wrap .i64 (i + (1 : Int))) < ((List.length t : Nat) : Int))) then if (0 : Int) ≤ i then if i < ((List.length t : Nat) : Int) then Option.bind (yK (yf t i)) fun r5 => if (0 : Int) ≤ (Go.IntKind.wrap .i64 (i + (1 : Int))) then if (Go.IntKind.wrap .i64 (i + (1 : Int))) < ((List.length t : Nat) : Int) then Option.bind (yK (yf t (Go.IntKind.wrap .i64 (i + (1 : Int))))) fun r6 => if (List.length r5 + List.length r6) * 40 < 140737488355328 then bif (decide (((List.length (r5 ++ r6) : Nat) : Int) ≤ (6 : Int))) then if (0 : Int) ≤ i then if i < ((List.length q : Nat) : Int) then Option.bind (zn (r5 ++ r6)) fun r7 => Option.bind (Y2 (q, t, i, (2 : Int), ([(zu q i)] : List yd), ([r7] : List y0))) fun r8 => k1 ((Go.IntKind.wrap .i64 ((-1 : Int) + (1 : Int))), r8.1, r8.2) else none else none else k2 ((Go.IntKind.wrap .i64 (i + (1 : Int))), q, t) else none else none else none else none else none else some (q, t)) = some (W6 t.length q t) := by
  intro i q t k1 k2 h hq i0 i1 hpi hk
  have hl := h.len
  have hw : Go.IntKind.wrap .i64 (i + 1) = i + 1 := w64 (by omega) (by omega)
  have hw0 : Go.IntKind.wrap .i64 (-1 + 1) = 0 := rfl
  simp only [hw, hw0]
  by_cases hi : i + 1 < (t.length : Int)
  ·have g1 := (nk h i0 (show i < (t.length : Int) by omega)).keys
   have g2 := (nk h (show 0 ≤ i + 1 by omega) hi).keys
   rw [ybR t i i0 hi] at hpi
   simp only [y4B h i0 (show i < (t.length : Int) by omega), y4B h (show 0 ≤ i + 1 by omega) hi, Option.bind_some]
   rw [decide_eq_true hi, cond_true, if_pos i0, if_pos (by omega), if_pos (by omega), if_pos hi, if_pos (by omega)]
   by_cases h6 : (z3 (yf t i)).length + (z3 (yf t (i + 1))).length ≤ 6
   ·rw [if_pos h6] at hpi
    subst hpi
    have hp : ¬ z5 t 0 < 0 := by omega
    have hT := yaM h hp
    have hL := ybS h hq hp
    rw [decide_eq_true (show ((List.length (z3 (yf t (z5 t 0)) ++ z3 (yf t (z5 t 0 + 1))) : Nat) : Int) ≤ 6 by rw [List.length_append]; omega), cond_true, if_pos i0, if_pos (by omega), kK _ (by rw [List.length_append]; omega)]
    simp only [Option.bind_some]
    rw [KZ q t _ 2 _ _ i0 (by decide) (by omega) (by omega) (by omega) (by omega) (by simp) (by simp)]
    simp only [Option.bind_some]
    rw [y5Z h hq hp, ← hL.1]
    exact (hk 0 (zz q (z5 t 0).toNat 2 [q.getD (z5 t 0).toNat 0]) (zz t (z5 t 0).toNat 2 [zt (z3 (yf t (z5 t 0)) ++ z3 (yf t (z5 t 0 + 1)))]) hT (hL.2.trans hL.1.symm) (Int.le_refl _) (by omega) rfl (by omega)).1
   ·rw [if_neg h6] at hpi
    rw [decide_eq_false (show ¬ ((List.length (z3 (yf t i) ++ z3 (yf t (i + 1))) : Nat) : Int) ≤ 6 by rw [List.length_append]; omega), cond_false]
    exact (hk (i + 1) q t h hq (by omega) (by omega) hpi (by omega)).2
  ·rw [y4A (t.drop i.toNat) i (by rw [List.length_drop]; omega)] at hpi
   rw [decide_eq_false hi, y9o _ (by omega)]
   rfl
 refine YH (step := vK _ _) (fun x : (Int × List Int × List y0) ⊕ (Int × List Int × List y0) => (Sum.elim id id x).2.2.length * 1000 + ((Sum.elim id id x).2.2.length - (Sum.elim id id x).1.toNat)) (fun x => TS (Sum.elim id id x).2.2 ∧ (Sum.elim id id x).2.1.length = (Sum.elim id id x).2.2.length ∧ 0 ≤ (Sum.elim id id x).1 ∧ (Sum.elim id id x).1 ≤ ((Sum.elim id id x).2.2.length : Int) ∧ z5 (Sum.elim id id x).2.2 0 = z5 ((Sum.elim id id x).2.2.drop (Sum.elim id id x).1.toNat) (Sum.elim id id x).1)
  (fun x => some (W6 (Sum.elim id id x).2.2.length (Sum.elim id id x).2.1 (Sum.elim id id x).2.2)) ?_ (Sum.inl (0, q, t)) ⟨h, hq, Int.le_refl _, by simp, rfl⟩ (by simp; omega)
 rintro again (⟨i, q, t⟩ | ⟨i, q, t⟩) ⟨h, hq, i0, i1, hpi⟩ hag
 ·exact key i q t (fun x => again (Sum.inr x)) (fun x => again (Sum.inl x)) h hq i0 i1 hpi fun i' q' t' a1 a2 a3 a4 a5 a6 => ⟨hag (Sum.inr (i', q', t')) ⟨a1, a2, a3, a4, a5⟩ a6, hag (Sum.inl (i', q', t')) ⟨a1, a2, a3, a4, a5⟩ a6⟩
 ·exact key i q t (fun x => again (Sum.inr x)) (fun x => again (Sum.inr x)) h hq i0 i1 hpi fun i' q' t' a1 a2 a3 a4 a5 a6 => ⟨hag (Sum.inr (i', q', t')) ⟨a1, a2, a3, a4, a5⟩ a6, hag (Sum.inr (i', q', t')) ⟨a1, a2, a3, a4, a5⟩ a6⟩
end Go.Proofs.YthgdjjdigalckaaGreat.Pl
namespace Go.Proofs.YthgdjjdigalckaaGreat.Pl
open Go.Proofs.YthgdjjdigalckaaGreat.R Go.Proofs.YthgdjjdigalckaaGreat.XB
theorem ybT : ∀ (n : List yb) (s : Int), 0 ≤ s → s + 60 * n.length ≤ 1000 → (∀ a ∈ n, List.length a ≤ 60) → n.foldl y12 s = s + Wg Vo n
 | [], s, _, _, _ => by simp [Wg]
 | a :: n, s, h0, hb, ha => by
  have h1 := ha a (by simp)
  rw [List.length_cons] at hb
  have hw : y12 s a = s + (List.length a : Int) := w64 (by omega) (by omega)
  have e : Vo a = (List.length a : Int) := rfl
  rw [List.foldl_cons, hw, ybT n _ (by omega) (by omega) fun b hm => ha b (by simp [hm]), Yb, e]
  omega
theorem jc {n : List yb} (h : YB n = true) : n.length ≤ 3 ∧ Wg Vo n ≤ 8 ∧ ∀ s ∈ n, ∀ k ∈ (show List y9 from s), wm k = true := by
 obtain ⟨h1, h2⟩ := y4v h
 have h3 := ybT n 0 (Int.le_refl _) (by omega) fun a ha => (y83 (h2 a ha)).1
 unfold YB at h
 simp only [Bool.and_eq_true, decide_eq_true_eq] at h
 exact ⟨h1, by omega, fun s hs => (y83 (h2 s hs)).2⟩
theorem y21 {n : List yb} (h : YB n = true) : NS n := ⟨by have := (jc h).1; omega, by have := (jc h).2.1; omega⟩
theorem y22 {q : List Int} {t : List y0} (h : Z2 q t = true) : TS t := by
 obtain ⟨h1, h2, h3, h4⟩ := wR h
 exact ⟨by omega, fun n hn => y21 (h4 n hn)⟩
theorem yaN {q : List Int} {t : List y0} (h : Z2 q t = true) : q.getD 0 0 = 0 := by
 unfold Z2 at h
 simp only [Bool.and_eq_true, beq_iff_eq] at h
 exact h.2.2.1
theorem y2R (q : List Int) (sp : Int) (h : q.getD 0 0 ≤ sp) : ∀ n, 0 ≤ KK q sp (n + 1)
 | 0 => by
  rw [KK, if_pos h]
  simp
 | n + 1 => by
  rw [KK]
  split
  ·omega
  ·exact y2R q sp h n
theorem ygL {k : y9} (h : wm k = true) : 0 ≤ wS k.1 k.2.1 := by
 unfold wm at h
 simp only [Bool.and_eq_true, Z6] at h
 obtain ⟨h1, h2, _⟩ := h
 unfold wS
 rw [w64 (n := (64 : Int) * k.1) (by omega) (by omega), w64 (by omega) (by omega)]
 omega
theorem ygM {n : List yb} {k : y9} (hn : YB n = true) (hk : wm k = true) (h : (zr n k).2 = false) : 8 < (Ja n k).length := by
 unfold zr at h
 split at h
 ·cases h
 ·split at h
  ·assumption
  ·rename_i h8
   have hok : YB (zt (Ja n k)) = true := ycQ (y9g (y5S k (yez n))) (fun x hx => by
    rcases y5T (y9h hx) with rfl | hx
    ·exact hk
    ·obtain ⟨c, hc, hx⟩ := yeA hx
     exact (jc hn).2.2 c hc x hx) (by omega)
   rw [if_pos hok] at h
   cases h
theorem y2s {n : List yb} (k : y9) (h : NS n) (h2 : n.length ≤ 900 ∧ Wg Vo n ≤ 900) : NS (zr n k).1 := by
 have h1 := y2r n k
 have h3 := y1Z n k
 have h4 := Vg n
 unfold zr
 split
 ·exact ⟨by simp only; omega, by simp only; omega⟩
 ·split
  ·exact h
  ·split
   ·exact qB (by omega)
   ·exact h
def zl (q : List Int) (k : y9) : Nat := (KK q (wS k.1 k.2.1) q.length).toNat
def vi (l : List y9) : Nat := (l.length + 1) / 2
def yC (q : List Int) (t : List y0) (k : y9) : List Int × List y0 :=
 if (zr (t.getD (zl q k) yz) k).2 = false then
  (zz q (zl q k) 1 [q.getD (zl q k) 0, yaH ((Ja (t.getD (zl q k) yz) k).getD (vi (Ja (t.getD (zl q k) yz) k)) zb)],
   zz t (zl q k) 1 [zt ((Ja (t.getD (zl q k) yz) k).take (vi (Ja (t.getD (zl q k) yz) k))), zt ((Ja (t.getD (zl q k) yz) k).drop (vi (Ja (t.getD (zl q k) yz) k)))])
 else if 0 < zl q k ∧ (z3 (zr (t.getD (zl q k) yz) k).1).length = 0 then (zz q (zl q k) 1 [], zz t (zl q k) 1 [])
 else (q, t.set (zl q k) (zr (t.getD (zl q k) yz) k).1)
def yx (q : List Int) (t : List y0) (k : y9) : List Int × List y0 × Bool :=
 if (Z2 q t && wm k) = true then
  (if Z2 (W6 (yC q t k).2.length (yC q t k).1 (yC q t k).2).1 (W6 (yC q t k).2.length (yC q t k).1 (yC q t k).2).2 = true then
   ((W6 (yC q t k).2.length (yC q t k).1 (yC q t k).2).1, (W6 (yC q t k).2.length (yC q t k).1 (yC q t k).2).2, true) else (q, t, false))
 else (q, t, false)
theorem y87 : ∀ (m : Nat) (q : List Int) (t : List y0), TS t → TS (W6 m q t).2
 | 0, _, _, h => h
 | m + 1, q, t, h => by
  rw [W6]
  split
  ·exact h
  ·rename_i hp
   exact y87 m _ _ (yaM h hp)
section
variable {q : List Int} {t : List y0} {k : y9} (h : Z2 q t = true) (hk : wm k = true)
include h hk
theorem y3I : (KK q (wS k.1 k.2.1) q.length) = (zl q k : Int) ∧ zl q k < t.length ∧ zl q k < q.length := by
 obtain ⟨h1, h2, h3, h4⟩ := wR h
 have h5 := y2R q (wS k.1 k.2.1) (by rw [yaN h]; exact ygL hk) (q.length - 1)
 rw [show q.length - 1 + 1 = q.length by omega] at h5
 have h6 := y5W q (wS k.1 k.2.1) q.length
 unfold zl
 omega
theorem y0q : YB (t.getD (zl q k) yz) = true := by
 have h1 := (y3I h hk).2.1
 rw [y1n _ _ _ h1]
 exact (wR h).2.2.2 _ (List.getElem_mem _)
theorem yaO (hm : (zr (t.getD (zl q k) yz) k).2 = false) : vi (Ja (t.getD (zl q k) yz) k) < (Ja (t.getD (zl q k) yz) k).length ∧ (Ja (t.getD (zl q k) yz) k).length ≤ 9 := by
 have h1 := ygM (y0q h hk) hk hm
 have h2 := y1Z (t.getD (zl q k) yz) k
 have h3 := Vg (t.getD (zl q k) yz)
 have h4 := (jc (y0q h hk)).2.1
 unfold vi
 omega
theorem y60 : TS (yC q t k).2 ∧ (yC q t k).1.length = (yC q t k).2.length := by
 obtain ⟨h1, h2, h3, h4⟩ := wR h
 obtain ⟨g0, g1, g2⟩ := y3I h hk
 have hT := y22 h
 have hn := jc (y0q h hk)
 unfold yC
 split
 ·rename_i hm
  have hh := yaO h hk hm
  refine ⟨hT.splice (by rw [wi _ _ _ _ (by omega)]; simp only [List.length_cons, List.length_nil]; omega) fun n hn => ?_, by rw [wi _ _ _ _ (by omega), wi _ _ _ _ (by omega)]; simp only [List.length_cons, List.length_nil]; omega⟩
  simp only [List.mem_cons, List.mem_nil_iff, or_false] at hn
  rcases hn with rfl | rfl
  ·exact qB (by rw [List.length_take]; omega)
  ·exact qB (by rw [List.length_drop]; omega)
 ·split
  ·refine ⟨hT.splice (by rw [wi _ _ _ _ (by omega)]; simp only [List.length_nil]; omega) (fun n hn => by cases hn), by rw [wi _ _ _ _ (by omega), wi _ _ _ _ (by omega)]; simp only [List.length_nil]; omega⟩
  ·refine ⟨⟨by simp only [List.length_set]; omega, fun n hn2 => (List.mem_or_eq_of_mem_set hn2).elim (hT.node n) fun e => e ▸ y2s k (y21 (y0q h hk)) (by omega)⟩, by simp only [List.length_set]; omega⟩
end
theorem Z4 (q : List Int) (t : List y0) (a b c d e : Int) (hT : TOk t) (hQ : ∀ n ∈ t, y35 n) (hq : q.length ≤ 1048576) : zN (q, t, a, b, c, d, e) = some (yx q t (a, b, c, d, e)) := by
 unfold zN yx
 simp only [VX q t hq hT.len hQ, VT q t hT, y1T, Option.bind_some]
 cases h : Z2 q t with
 | false => rfl
 | true =>
  cases hk : wm (a, b, c, d, e) with
  | false => rfl
  | true =>
   obtain ⟨h1, h2, h3, h4⟩ := wR h
   obtain ⟨g0, g1, g2⟩ := y3I h hk
   have hNS := y21 (y0q h hk)
   have hnf := jc (y0q h hk)
   have hP := y60 h hk
   have hJ := y87 (yC q t (a, b, c, d, e)).2.length (yC q t (a, b, c, d, e)).1 (yC q t (a, b, c, d, e)).2 hP.1
   have ern : yf t (zl q (a, b, c, d, e) : Int) = t.getD (zl q (a, b, c, d, e)) yz := by
    show t.getD ((zl q (a, b, c, d, e) : Int)).toNat yz = _
    rw [Int.toNat_natCast]
   have erq : zu q (zl q (a, b, c, d, e) : Int) = q.getD (zl q (a, b, c, d, e)) 0 := by
    show q.getD ((zl q (a, b, c, d, e) : Int)).toNat 0 = _
    rw [Int.toNat_natCast]
   have hfin : ∀ p : List Int × List y0, p = yC q t (a, b, c, d, e) → (Option.bind (Zr (p.1, p.2)) fun r15 => Option.bind (Yl (r15.1, r15.2)) fun r16 => bif (!r16) then some (q, t, false) else some (r15.1, r15.2, true)) = some (if Z2 (W6 (yC q t (a, b, c, d, e)).2.length (yC q t (a, b, c, d, e)).1 (yC q t (a, b, c, d, e)).2).1 (W6 (yC q t (a, b, c, d, e)).2.length (yC q t (a, b, c, d, e)).1 (yC q t (a, b, c, d, e)).2).2 = true then ((W6 (yC q t (a, b, c, d, e)).2.length (yC q t (a, b, c, d, e)).1 (yC q t (a, b, c, d, e)).2).1, (W6 (yC q t (a, b, c, d, e)).2.length (yC q t (a, b, c, d, e)).1 (yC q t (a, b, c, d, e)).2).2, true) else (q, t, false)) := by
    rintro p rfl
    simp only [y9p _ _ hP.1 hP.2, Option.bind_some, VT _ _ hJ.ok]
    cases Z2 (W6 (yC q t (a, b, c, d, e)).2.length (yC q t (a, b, c, d, e)).1 (yC q t (a, b, c, d, e)).2).1 (W6 (yC q t (a, b, c, d, e)).2.length (yC q t (a, b, c, d, e)).1 (yC q t (a, b, c, d, e)).2).2 <;> rfl
   simp only [Bool.not_true, cond_false, Option.bind_some, y0n q t a b hq, show KK q (wS a b) q.length = (zl q (a, b, c, d, e) : Int) from g0, ern, erq, Bool.and_self, if_true]
   rw [if_pos (by omega), if_pos (by omega), y0p _ a b c d e hNS]
   simp only [Option.bind_some]
   rw [if_pos (by omega), if_pos (by omega), Q0 q t _ _ _ (by omega) (by omega) (by omega) (by omega) (by omega) (by simp) (by simp)]
   simp only [Option.bind_some, Int.toNat_natCast]
   cases hm : (zr (t.getD (zl q (a, b, c, d, e)) yz) (a, b, c, d, e)).2 with
   | false =>
    have hh := yaO h hk hm
    have hkn := (hNS.keys)
    have hsl := wh (z3 (t.getD (zl q (a, b, c, d, e)) yz)) (a, b, c, d, e)
    have e1 : Y4 (wl (z3 (t.getD (zl q (a, b, c, d, e)) yz)) (a, b, c, d, e)) = some (Ja (t.getD (zl q (a, b, c, d, e)) yz) (a, b, c, d, e)) := y0h _ (by omega)
    have hput := yC.eq_1 q t (a, b, c, d, e)
    rw [if_pos hm] at hput
    generalize hW : Ja (t.getD (zl q (a, b, c, d, e)) yz) (a, b, c, d, e) = W at hh e1 hput
    have hwr : Go.IntKind.wrap .i64 (Int.tdiv (Go.IntKind.wrap .i64 (((List.length W : Nat) : Int) + (1 : Int))) (2 : Int)) = (vi W : Int) := by
     rw [w64 (n := ((List.length W : Nat) : Int) + 1) (by omega) (by omega), Int.tdiv_eq_ediv_of_nonneg (by omega)]
     unfold vi
     rw [w64 (by omega) (by omega)]
     omega
    simp only [Bool.not_false, cond_true, Zc _ (Nat.le_trans hNS.len (by decide)) (Int.le_trans hNS.sum (by decide)), wP _ a b c d e (show (z3 (t.getD (zl q (a, b, c, d, e)) yz)).length ≤ 1073741824 by omega), e1, Option.bind_some, hwr, Int.toNat_natCast]
    rw [if_pos (by omega), if_pos (by omega), if_pos (by omega), if_pos (by omega), if_pos (by omega), if_pos (by omega)]
    have e2 : w8 ((y6 W (vi W : Int)).1, (y6 W (vi W : Int)).2.1, (y6 W (vi W : Int)).2.2.1, (y6 W (vi W : Int)).2.2.2.1, (y6 W (vi W : Int)).2.2.2.2) = some (yaH (W.getD (vi W) zb)) := by
     have e3 : y6 W (vi W : Int) = W.getD (vi W) zb := by
      show W.getD ((vi W : Int)).toNat zb = _
      rw [Int.toNat_natCast]
     rw [e3]
     rfl
    rw [e2]
    simp only [Option.bind_some]
    rw [if_pos (by omega), if_pos (by omega), if_pos (by omega), JY _ (by simp only [List.length_drop, List.length_take]; omega)]
    simp only [Option.bind_some]
    rw [if_pos (by omega), if_pos (by omega), if_pos (by omega), JY _ (by simp only [List.length_drop, List.length_take]; omega)]
    simp only [Option.bind_some]
    rw [Q0 q t _ _ _ (by omega) (by omega) (by omega) (by omega) (by omega) (by simp) (by simp)]
    simp only [Option.bind_some, Int.toNat_natCast, List.take_length]
    exact hfin _ hput.symm
   | true =>
    have hP2 := y2s (a, b, c, d, e) hNS (by omega)
    have hnm : ¬ (zr (t.getD (zl q (a, b, c, d, e)) yz) (a, b, c, d, e)).2 = false := by rw [hm]; simp
    simp only [Bool.not_true, cond_false, Zc _ (Nat.le_trans hP2.len (by decide)) (Int.le_trans hP2.sum (by decide)), Option.bind_some]
    have hput := yC.eq_1 q t (a, b, c, d, e)
    rw [if_neg hnm] at hput
    have h3 : (bif decide ((zl q (a, b, c, d, e) : Int) > 0) then some (((List.length (z3 (zr (t.getD (zl q (a, b, c, d, e)) yz) (a, b, c, d, e)).1) : Nat) : Int) == 0) else some false) = some (decide (0 < zl q (a, b, c, d, e) ∧ (z3 (zr (t.getD (zl q (a, b, c, d, e)) yz) (a, b, c, d, e)).1).length = 0)) := by
     by_cases i0 : 0 < zl q (a, b, c, d, e)
     ·rw [decide_eq_true (show (zl q (a, b, c, d, e) : Int) > 0 by omega), cond_true]
      congr 1
      by_cases i1 : (z3 (zr (t.getD (zl q (a, b, c, d, e)) yz) (a, b, c, d, e)).1).length = 0
      ·rw [decide_eq_true ⟨i0, i1⟩]
       exact beq_iff_eq.2 (by omega)
      ·rw [decide_eq_false (fun hh => i1 hh.2)]
       exact beq_eq_false_iff_ne.2 (by omega)
     ·rw [decide_eq_false (show ¬ (zl q (a, b, c, d, e) : Int) > 0 by omega), decide_eq_false (fun hh => i0 hh.1)]
      rfl
    rw [h3]
    simp only [Option.bind_some]
    by_cases hz : 0 < zl q (a, b, c, d, e) ∧ (z3 (zr (t.getD (zl q (a, b, c, d, e)) yz) (a, b, c, d, e)).1).length = 0
    ·rw [if_pos hz] at hput
     rw [decide_eq_true hz, cond_true, Q0 q t _ _ _ (by omega) (by omega) (by omega) (by omega) (by omega) (by simp) (by simp)]
     simp only [Option.bind_some, Int.toNat_natCast]
     exact hfin _ hput.symm
    ·rw [if_neg hz] at hput
     rw [decide_eq_false hz, cond_false]
     rw [y5X q _ _ (by omega), y5X t _ _ (by omega)]
     refine hfin (q.set (zl q (a, b, c, d, e)) (q.getD (zl q (a, b, c, d, e)) 0), t.set (zl q (a, b, c, d, e)) (zr (t.getD (zl q (a, b, c, d, e)) yz) (a, b, c, d, e)).1) ?_
     rw [hput, y1n _ _ _ (by omega), List.set_getElem_self]
theorem y4C (q : List Int) (t : List y0) (a b c d e : Int) (hT : TOk t) (hQ : ∀ n ∈ t, y35 n) (hq : q.length ≤ 1048576) : wA (q, t, a, b, c, d, e) = some (yx q t (a, b, c, d, e)) := by
 unfold wA yx
 simp only [Qn q t hq hT.len hQ, VU q t hT, y1U, Option.bind_some]
 cases h : Z2 q t with
 | false => rfl
 | true =>
  cases hk : wm (a, b, c, d, e) with
  | false => rfl
  | true =>
   obtain ⟨h1, h2, h3, h4⟩ := wR h
   obtain ⟨g0, g1, g2⟩ := y3I h hk
   have hNS := y21 (y0q h hk)
   have hnf := jc (y0q h hk)
   have hP := y60 h hk
   have hJ := y87 (yC q t (a, b, c, d, e)).2.length (yC q t (a, b, c, d, e)).1 (yC q t (a, b, c, d, e)).2 hP.1
   have ern : yf t (zl q (a, b, c, d, e) : Int) = t.getD (zl q (a, b, c, d, e)) yz := by
    show t.getD ((zl q (a, b, c, d, e) : Int)).toNat yz = _
    rw [Int.toNat_natCast]
   have erq : zu q (zl q (a, b, c, d, e) : Int) = q.getD (zl q (a, b, c, d, e)) 0 := by
    show q.getD ((zl q (a, b, c, d, e) : Int)).toNat 0 = _
    rw [Int.toNat_natCast]
   have hfin : ∀ p : List Int × List y0, p = yC q t (a, b, c, d, e) → (Option.bind (Zk (p.1, p.2)) fun r15 => Option.bind (Yi (r15.1, r15.2)) fun r16 => bif (!r16) then some (q, t, false) else some (r15.1, r15.2, true)) = some (if Z2 (W6 (yC q t (a, b, c, d, e)).2.length (yC q t (a, b, c, d, e)).1 (yC q t (a, b, c, d, e)).2).1 (W6 (yC q t (a, b, c, d, e)).2.length (yC q t (a, b, c, d, e)).1 (yC q t (a, b, c, d, e)).2).2 = true then ((W6 (yC q t (a, b, c, d, e)).2.length (yC q t (a, b, c, d, e)).1 (yC q t (a, b, c, d, e)).2).1, (W6 (yC q t (a, b, c, d, e)).2.length (yC q t (a, b, c, d, e)).1 (yC q t (a, b, c, d, e)).2).2, true) else (q, t, false)) := by
    rintro p rfl
    simp only [y59 _ _ hP.1 hP.2, Option.bind_some, VU _ _ hJ.ok]
    cases Z2 (W6 (yC q t (a, b, c, d, e)).2.length (yC q t (a, b, c, d, e)).1 (yC q t (a, b, c, d, e)).2).1 (W6 (yC q t (a, b, c, d, e)).2.length (yC q t (a, b, c, d, e)).1 (yC q t (a, b, c, d, e)).2).2 <;> rfl
   simp only [Bool.not_true, cond_false, Option.bind_some, y0o q t a b hq, show KK q (wS a b) q.length = (zl q (a, b, c, d, e) : Int) from g0, ern, erq, Bool.and_self, if_true]
   rw [if_pos (by omega), if_pos (by omega), y4z _ a b c d e hNS]
   simp only [Option.bind_some, Int.toNat_natCast]
   cases hm : (zr (t.getD (zl q (a, b, c, d, e)) yz) (a, b, c, d, e)).2 with
   | false =>
    have hh := yaO h hk hm
    have e1 : zL (t.getD (zl q (a, b, c, d, e)) yz, a, b, c, d, e) = some (Ja (t.getD (zl q (a, b, c, d, e)) yz) (a, b, c, d, e)) := Qp _ a b c d e hNS
    have hput := yC.eq_1 q t (a, b, c, d, e)
    rw [if_pos hm] at hput
    generalize hW : Ja (t.getD (zl q (a, b, c, d, e)) yz) (a, b, c, d, e) = W at hh e1 hput
    have hwr : Go.IntKind.wrap .i64 (Int.tdiv (Go.IntKind.wrap .i64 (((List.length W : Nat) : Int) + (1 : Int))) (2 : Int)) = (vi W : Int) := by
     rw [w64 (n := ((List.length W : Nat) : Int) + 1) (by omega) (by omega), Int.tdiv_eq_ediv_of_nonneg (by omega)]
     unfold vi
     rw [w64 (by omega) (by omega)]
     omega
    simp only [Bool.not_false, cond_true, e1, Option.bind_some, hwr, Int.toNat_natCast]
    rw [if_pos (by omega), if_pos (by omega), if_pos (by omega), if_pos (by omega), if_pos (by omega), if_pos (by omega)]
    have e2 : Zh ((y6 W (vi W : Int)).1, (y6 W (vi W : Int)).2.1) = some (yaH (W.getD (vi W) zb)) := by
     have e3 : y6 W (vi W : Int) = W.getD (vi W) zb := by
      show W.getD ((vi W : Int)).toNat zb = _
      rw [Int.toNat_natCast]
     rw [e3]
     rfl
    rw [e2]
    simp only [Option.bind_some]
    rw [if_pos (by omega), if_pos (by omega), if_pos (by omega), kK _ (by simp only [List.length_drop, List.length_take]; omega)]
    simp only [Option.bind_some]
    rw [if_pos (by omega), if_pos (by omega), if_pos (by omega), kK _ (by simp only [List.length_drop, List.length_take]; omega)]
    simp only [Option.bind_some]
    rw [KZ q t _ 1 _ _ (by omega) (by decide) (by omega) (by omega) (by omega) (by omega) (by simp) (by simp)]
    simp only [Option.bind_some, Int.toNat_natCast, List.take_length]
    exact hfin _ hput.symm
   | true =>
    have hP2 := y2s (a, b, c, d, e) hNS (by omega)
    have hnm : ¬ (zr (t.getD (zl q (a, b, c, d, e)) yz) (a, b, c, d, e)).2 = false := by rw [hm]; simp
    simp only [Bool.not_true, cond_false, jV _ (Nat.le_trans hP2.len (by decide)) (Int.le_trans hP2.sum (by decide)), Option.bind_some]
    have hput := yC.eq_1 q t (a, b, c, d, e)
    rw [if_neg hnm] at hput
    have h3 : (bif decide ((zl q (a, b, c, d, e) : Int) > 0) then some (((List.length (z3 (zr (t.getD (zl q (a, b, c, d, e)) yz) (a, b, c, d, e)).1) : Nat) : Int) == 0) else some false) = some (decide (0 < zl q (a, b, c, d, e) ∧ (z3 (zr (t.getD (zl q (a, b, c, d, e)) yz) (a, b, c, d, e)).1).length = 0)) := by
     by_cases i0 : 0 < zl q (a, b, c, d, e)
     ·rw [decide_eq_true (show (zl q (a, b, c, d, e) : Int) > 0 by omega), cond_true]
      congr 1
      by_cases i1 : (z3 (zr (t.getD (zl q (a, b, c, d, e)) yz) (a, b, c, d, e)).1).length = 0
      ·rw [decide_eq_true ⟨i0, i1⟩]
       exact beq_iff_eq.2 (by omega)
      ·rw [decide_eq_false (fun hh => i1 hh.2)]
       exact beq_eq_false_iff_ne.2 (by omega)
     ·rw [decide_eq_false (show ¬ (zl q (a, b, c, d, e) : Int) > 0 by omega), decide_eq_false (fun hh => i0 hh.1)]
      rfl
    rw [h3]
    simp only [Option.bind_some]
    by_cases hz : 0 < zl q (a, b, c, d, e) ∧ (z3 (zr (t.getD (zl q (a, b, c, d, e)) yz) (a, b, c, d, e)).1).length = 0
    ·rw [if_pos hz] at hput
     rw [decide_eq_true hz, cond_true, KZ q t _ 1 _ _ (by omega) (by decide) (by omega) (by omega) (by omega) (by omega) (by simp) (by simp)]
     simp only [Option.bind_some, Int.toNat_natCast]
     exact hfin _ hput.symm
    ·rw [if_neg hz] at hput
     rw [decide_eq_false hz, cond_false, if_pos (by omega), if_pos (by omega)]
     exact hfin _ hput.symm
end Go.Proofs.YthgdjjdigalckaaGreat.Pl
namespace Go.Proofs.YthgdjjdigalckaaGreat.Pl
open Go.Proofs.YthgdjjdigalckaaGreat.R Go.Proofs.YthgdjjdigalckaaGreat.XB
def y23 (fr id : Int) (x : ya) : ya := if (x.2 == id) = true then (x.1, fr) else x
def yBU (l : List ya) (i : Nat) (id : Int) : List ya := (l.map (y23 (l.getD i YT).2 id)).eraseIdx i
def y4D (l : List ya) (id : Int) : List ya × Bool := if zV l id < 0 then (l, false) else if JV l = true then (yBU l (zV l id).toNat id, true) else (l, false)
theorem y2t (l : List ya) (h : l.length ≤ 1048576) : zK l = some l := by
 unfold zK
 rw [if_pos (by simp only [List.length_nil]; omega)]
 rfl
theorem y3J {A : Type} (p : A → Bool) : ∀ (l : List A) (i : Int), ZE p l i = -1 ∨ i ≤ ZE p l i ∧ ZE p l i < i + l.length
 | [], _ => .inl rfl
 | a :: l, i => by
  rw [ZE]
  split
  ·refine .inr ⟨Int.le_refl _, by simp only [List.length_cons]; omega⟩
  ·rcases y3J p l (i + 1) with h | ⟨h1, h2⟩
   ·exact .inl h
   ·exact .inr ⟨by omega, by simp only [List.length_cons]; omega⟩
theorem y5a (l : List ya) (id : Int) (hl : l.length ≤ 1048576) : we (l, id) = some (y4D l id) := by
 unfold we y4D
 simp only [Yo l id (by omega), wQ l hl, Option.bind_some]
 by_cases h0 : zV l id < 0
 ·rw [decide_eq_true h0, if_pos h0]
  simp only [cond_true, Option.bind_some]
  rw [if_pos (by simp only [List.length_nil]; omega)]
  rfl
 ·rw [decide_eq_false h0, if_neg h0]
  cases hA : JV l with
  | false =>
   simp only [cond_false, Bool.not_false, Option.bind_some, cond_true]
   rw [if_pos (by simp only [List.length_nil]; omega)]
   rfl
  | true =>
   simp only [cond_false, Bool.not_true, Option.bind_some, if_true]
   have hi1 : zV l id < (l.length : Int) := by
    rcases y3J (fun a : ya => a.1 == id) l 0 with h | ⟨h1, h2⟩
    ·have : zV l id = -1 := h
     omega
    ·have : zV l id = ZE (fun a : ya => a.1 == id) l 0 := rfl
     omega
   generalize zV l id = i at h0 hi1
   unfold y08
   have key := YH (step := kc (fun x4 => some (x4, true))) (fun x : List ya × Int × Int × Int × List ya => l.length - x.2.2.2.1.toNat) (fun x => x.1 = l ∧ x.2.1 = id ∧ x.2.2.1 = i ∧ 0 ≤ x.2.2.2.1 ∧ x.2.2.2.1 ≤ (l.length : Int) ∧ x.2.2.2.2.length ≤ x.2.2.2.1.toNat)
    (fun x => some (x.2.2.2.2 ++ (if x.2.2.2.1 ≤ i then ((l.drop x.2.2.2.1.toNat).map (y23 (l.getD i.toNat YT).2 id)).eraseIdx (i - x.2.2.2.1).toNat else (l.drop x.2.2.2.1.toNat).map (y23 (l.getD i.toNat YT).2 id)), true)) ?_ (l, id, i, 0, []) ⟨rfl, rfl, rfl, Int.le_refl _, by simp, by simp⟩ (by simp; omega)
   ·rw [key]
    simp only [List.nil_append]
    rw [if_pos (by omega), Int.sub_zero]
    rfl
   ·rintro again ⟨l', id', i', j, o⟩ ⟨rfl, rfl, rfl, j0, j1, ho⟩ hag
    simp only at j0 j1 ho hl hi1 h0 ⊢
    unfold kc
    by_cases hj : j < (l'.length : Int)
    ·have hw : Go.IntKind.wrap .i64 (j + 1) = j + 1 := w64 (by omega) (by omega)
     have hd := wO YT l' j j0 hj
     have e1 : (j + 1).toNat = j.toNat + 1 := by omega
     have hlen : ∀ y : ya, (List.length o + List.length ([y] : List ya)) * 16 < 140737488355328 := fun y => by simp only [List.length_cons, List.length_nil]; omega
     have hstep : ∀ y, y = y23 (l'.getD i'.toNat YT).2 id' (l'.getD j.toNat YT) → (bif (j != i') then if (List.length o + List.length ([y] : List ya)) * 16 < 140737488355328 then again (l', id', i', j + 1, o ++ [y]) else none else again (l', id', i', j + 1, o)) = some (o ++ (if j ≤ i' then ((l'.drop j.toNat).map (y23 (l'.getD i'.toNat YT).2 id')).eraseIdx (i' - j).toNat else (l'.drop j.toNat).map (y23 (l'.getD i'.toNat YT).2 id')), true) := by
      rintro y rfl
      rw [hd, List.map_cons]
      by_cases hji : j = i'
      ·rw [show (j != i') = false by simp [hji], cond_false, if_pos (by omega), show (i' - j).toNat = 0 by omega, List.eraseIdx_zero, List.tail_cons]
       have := hag (l', id', i', j + 1, o) ⟨rfl, rfl, rfl, by simp only; omega, by simp only; omega, by simp only; omega⟩ (by simp only; omega)
       rw [this]
       simp only
       rw [if_neg (by omega)]
      ·rw [show (j != i') = true by simpa using hji, cond_true, if_pos (hlen _)]
       have := hag (l', id', i', j + 1, o ++ [y23 (l'.getD i'.toNat YT).2 id' (l'.getD j.toNat YT)]) ⟨rfl, rfl, rfl, by simp only; omega, by simp only; omega, by simp only [List.length_append, List.length_cons, List.length_nil]; omega⟩ (by simp only; omega)
       rw [this]
       simp only
       by_cases hlt : j ≤ i'
       ·rw [if_pos hlt, if_pos (by omega), show (i' - j).toNat = (i' - (j + 1)).toNat + 1 by omega, List.eraseIdx_cons_succ, List.append_assoc]
        rfl
       ·rw [if_neg hlt, if_neg (by omega), List.append_assoc]
        rfl
     have hrd : yD l' j = l'.getD j.toNat YT := rfl
     simp only [hw]
     rw [decide_eq_true hj, cond_true, if_pos j0, if_pos hj]
     by_cases hid : (l'.getD j.toNat YT).2 = id'
     ·have hb : ((yD l' j).2 == id') = true := beq_iff_eq.2 hid
      rw [hb, cond_true, if_pos (by omega), if_pos hi1]
      exact hstep _ (by unfold y23; rw [if_pos (beq_iff_eq.2 hid)]; rfl)
     ·have hb : ((yD l' j).2 == id') = false := beq_eq_false_iff_ne.2 hid
      rw [hb, cond_false]
      exact hstep _ (by unfold y23; rw [if_neg (by simpa using hid)]; rfl)
    ·rw [decide_eq_false hj, cond_false, List.drop_of_length_le (by omega)]
     simp
def y5b (cs : List y7) (i : Int) : List y7 := if zT cs = true ∧ 0 ≤ i ∧ i ≤ 23 ∧ (cs.getD i.toNat zW).2.1 = true then cs.set i.toNat (Int.tmod (Go.IntKind.wrap .i64 ((cs.getD i.toNat zW).1 + 1)) 1000, false, 0) else cs
theorem y24 (cs : List y7) (i : Int) : (y5b cs i).length = cs.length := by
 unfold y5b
 split
 ·simp
 ·rfl
theorem yeD {cs : List y7} (h : zT cs = true) : cs.length = 24 := by
 unfold zT at h
 simp only [Bool.and_eq_true, beq_iff_eq] at h
 omega
theorem y0E {cs : List y7} {i : Int} (h : ¬ (zT cs = true ∧ 0 ≤ i ∧ i ≤ 23 ∧ (cs.getD i.toNat zW).2.1 = true)) : y5b cs i = cs := if_neg h
theorem y9q {cs : List y7} {i : Int} (h : zT cs = true ∧ 0 ≤ i ∧ i ≤ 23 ∧ (cs.getD i.toNat zW).2.1 = true) : y5b cs i = cs.set i.toNat (Int.tmod (Go.IntKind.wrap .i64 ((cs.getD i.toNat zW).1 + 1)) 1000, false, 0) := if_pos h
theorem jW (cs : List y7) (i : Int) (hc : cs.length ≤ 1048576) : YZ (cs, i) = some (y5b cs i) := by
 have e1 : Y3 cs = some cs := by
  unfold Y3
  rw [if_pos (by simp only [List.length_nil]; omega)]
  rfl
 unfold YZ
 simp only [e1, JW cs hc, Yz, Option.bind_some]
 cases hk : zT cs with
 | false =>
  rw [y0E fun h => by rw [hk] at h; cases h.1]
  rfl
 | true =>
  have h24 := yeD hk
  have hw : Go.IntKind.wrap .i64 ((cs.length : Int) - 1) = 23 := by rw [w64 (by omega) (by omega)]; omega
  simp only [hw, cond_true, Option.bind_some]
  cases hi : inR i 0 23 with
  | false =>
   have : ¬ (0 ≤ i ∧ i ≤ 23) := fun h => by rw [Z6.2 h] at hi; cases hi
   rw [y0E fun h => this ⟨h.2.1, h.2.2.1⟩]
   rfl
  | true =>
   obtain ⟨i0, i1⟩ := Z6.1 hi
   rw [cond_true, if_pos i0, if_pos (by omega)]
   have hrd : yl cs i = cs.getD i.toNat zW := rfl
   rw [hrd]
   cases hu : (cs.getD i.toNat zW).2.1 with
   | false =>
    rw [y0E fun h => by have := h.2.2.2; rw [hu] at this; cases this]
    rfl
   | true =>
    simp only [Option.bind_some, cond_true]
    rw [if_pos i0, if_pos (by omega), if_pos i0, if_pos (by omega), y9q ⟨hk, i0, i1, hu⟩]
theorem y36 (cs : List y7) (i : Int) (hc : cs.length ≤ 1048576) : Jz (cs, i) = some (y5b cs i) := by
 have e1 : zA cs = some cs := by
  unfold zA
  rw [if_pos (by simp only [List.length_nil]; omega)]
  rfl
 unfold Jz
 simp only [e1, Vi cs hc, YJ, Option.bind_some]
 cases hk : zT cs with
 | false =>
  rw [y0E fun h => by rw [hk] at h; cases h.1]
  rfl
 | true =>
  have h24 := yeD hk
  simp only [Bool.not_true, cond_false, Option.bind_some]
  cases hi : inR i 0 23 with
  | false =>
   have : ¬ (0 ≤ i ∧ i ≤ 23) := fun h => by rw [Z6.2 h] at hi; cases hi
   rw [y0E fun h => this ⟨h.2.1, h.2.2.1⟩]
   rfl
  | true =>
   obtain ⟨i0, i1⟩ := Z6.1 hi
   rw [Bool.not_true, cond_false, if_pos i0, if_pos (by omega)]
   have hrd : yl cs i = cs.getD i.toNat zW := rfl
   rw [hrd]
   cases hu : (cs.getD i.toNat zW).2.1 with
   | false =>
    rw [y0E fun h => by have := h.2.2.2; rw [hu] at this; cases this]
    rfl
   | true =>
    simp only [Option.bind_some, Bool.not_true, cond_false]
    rw [if_pos i0, if_pos (by omega), if_pos i0, if_pos (by omega), y9q ⟨hk, i0, i1, hu⟩]
end Go.Proofs.YthgdjjdigalckaaGreat.Pl
namespace Go.Proofs.YthgdjjdigalckaaGreat.Pl
open Go.Proofs.YthgdjjdigalckaaGreat.R Go.Proofs.YthgdjjdigalckaaGreat.XB
def yeE (l : List ya) (vs : List ye) (id : Int) : Bool := y9k vs id && ((Yx l id).length : Int) == 1
def Je (q : List Int) (t : List y0) (l : List ya) (vs : List ye) (step : Int) (k : y9) : Bool :=
 if step = 1 then !yaG t l vs k else if step = 2 then (k.2.2.1 == 2) && !(y4x t l k.1 k.2.1).1 else
  yeE l vs k.2.1 && !(jC q t k.1 ((Yx l k.2.1).getD 0 0)).2.2.2.2.2
theorem ygN (l : List ya) (id : Int) : ∀ x ∈ Yx l id, ∃ a ∈ l, a.1 = x := by
 have : ∀ (l : List ya) (s : List Int) (x : Int), x ∈ l.foldl (y0k id) s → x ∈ s ∨ ∃ a ∈ l, a.1 = x := by
  intro l
  induction l with
  | nil => intro s x h; exact .inl h
  | cons a l ih =>
   intro s x h
   rw [List.foldl_cons] at h
   rcases ih _ x h with h | ⟨b, hb, e⟩
   ·unfold y0k at h
    split at h
    ·rcases List.mem_append.1 h with h | h
     ·exact .inl h
     ·exact .inr ⟨a, by simp, (by simpa using h : x = a.1).symm⟩
    ·exact .inl h
   ·exact .inr ⟨b, by simp [hb], e⟩
 intro x hx
 rcases this l [] x hx with h | h
 ·simp at h
 ·exact h
theorem ybU {A : Type} {p : A → Bool} : ∀ (l : List A) (i : Int), YA (fun _ a => p a) l i = false → ∀ a ∈ l, p a = false
 | b :: l, i, h, a, ha => by
  rw [YA, Bool.or_eq_false_iff] at h
  rcases List.mem_cons.1 ha with rfl | ha
  ·exact h.1
  ·exact ybU l (i + 1) h.2 a ha
theorem ygO {l : List ya} (h : JV l = true) : ∀ a ∈ l, 1 ≤ a.1 := by
 unfold JV y97 at h
 simp only [Bool.and_eq_true, Bool.not_eq_true'] at h
 have h1 := h.1
 rw [yaF, Bool.or_eq_false_iff] at h1
 intro a ha
 have := ybU (p := fun a : ya => !inR a.1 1 60) l 0 h1.1 a ha
 simp only [Bool.not_eq_false'] at this
 exact (Z6.1 this).1
section
variable (q : List Int) (t : List y0) (l : List ya) (cs : List y7) (vs : List ye) (z : Int)
theorem y4E (ht : TOk t) (hq : q.length ≤ 1048576) (hl : l.length ≤ 1048576) (hv : vs.length ≤ 1048576) (hpos : ∀ a ∈ l, 1 ≤ a.1) (step : Int) (k1 k2 k3 k4 k5 : Int) : k9 (q, t, l, cs, vs, z, step, k1, k2, k3, k4, k5) = some (Je q t l vs step (k1, k2, k3, k4, k5)) := by
 unfold k9 Je
 simp only [Bool.cond_eq_ite, beq_iff_eq, y2q q t l cs vs z k1 k2 k3 k4 k5 ht hl hv, qZ q t l k1 k2 ht hl, Option.bind_some]
 by_cases h1 : step = 1
 ·simp only [h1, if_true]
 by_cases h2 : step = 2
 ·subst h2
  simp only [if_true, if_neg (show ¬ (2 : Int) = 1 by omega)]
  by_cases h3 : k3 = 2
  ·have : (k3 == 2) = true := by simp [h3]
   rw [this, if_pos h3]
   rfl
  ·have : (k3 == 2) = false := by simpa using h3
   rw [this, if_neg h3]
   rfl
 simp only [h1, h2, if_false]
 unfold Kq Zu yeE
 simp only [Kt l k2 hl, y0m q t l cs vs z k2 hv, Option.bind_some]
 cases y9k vs k2
 ·rfl
 by_cases hk : ((Yx l k2).length : Int) = 1
 ·have g1 : (((Yx l k2).length : Int) != 1) = false := by simp [hk]
  have g2 : (((Yx l k2).length : Int) == 1) = true := by simp [hk]
  have hlt : (0 : Int) < ((Yx l k2).length : Int) := by omega
  have hne : ((Yx l k2).getD 0 0 == 0) = false := by
   have hm : (Yx l k2).getD 0 0 ∈ Yx l k2 := yZ 0 (Yx l k2) 0 (Int.le_refl _) hlt
   obtain ⟨a, ha, e⟩ := ygN l k2 _ hm
   have := hpos a ha
   simp only [beq_eq_false_iff_ne, ne_eq]
   omega
  have hx : zu (Yx l k2) 0 = (Yx l k2).getD 0 0 := rfl
  simp only [g1, g2, hlt, Bool.not_true, cond_false, cond_true, Option.bind_some, Int.le_refl, if_true, hx, hne, J7 q t k1 _ ht hq, Bool.true_and, Bool.and_self, Bool.and_true, Bool.true_and]
 ·have g1 : (((Yx l k2).length : Int) != 1) = true := by simpa using hk
  have g2 : (((Yx l k2).length : Int) == 1) = false := by simpa using hk
  simp only [g1, g2]
  rfl
def ygP (id : Int) (_ : Int) (k : y9) : Bool := k.2.1 == id
def ymo (ks : List y9) (l : List ya) (vs : List ye) (a : ya) : Bool := !YA (ygP a.1) ks 0 && (y9k vs a.1 && decide (((Yx l a.1).length : Int) ≤ 1))
theorem yaP (ht : TOk t) (hl : l.length ≤ 1048576) (hv : vs.length ≤ 1048576) (a : ya) : ka (q, t, l, cs, vs, z, a.1) = some (ymo (zF t) l vs a) := by
 unfold ka y07 ymo
 have hk := ht.keys
 have e : yL (q, t) = some (zF t) := Yy q t (by have := ht.len; omega) ht.nodes ht.sum
 simp only [e, Option.bind_some]
 generalize zF t = ks at hk
 refine (zP (step := JN _ _) (fun i => (a.1, i, q, t, l, cs, vs, z, ks)) (ygP a.1) (some false) (some (y9k vs a.1 && decide (((Yx l a.1).length : Int) ≤ 1))) zb ks (by omega) ?_ ?_).trans ?_
 ·intro again i h0 h1
  have hw : Go.IntKind.wrap .i64 (i + 1) = i + 1 := w64 (by omega) (by omega)
  unfold JN ygP
  have hx : ks.getD i.toNat zb = y6 ks i := rfl
  rw [hx]
  simp only [Bool.cond_eq_ite, decide_eq_true_eq, h0, h1, if_true, hw]
 ·intro again i hi
  unfold JN
  simp only [Bool.cond_eq_ite, decide_eq_true_eq, if_neg hi, y0m q t l cs vs z a.1 hv, Kt l a.1 hl, Option.bind_some]
  cases y9k vs a.1 <;> rfl
 ·cases YA (ygP a.1) ks 0 <;> rfl
def y9r (q : List Int) (t : List y0) (l : List ya) (vs : List ye) (_ : Int) (_ : Unit) (step : Int) : Except (Option (Int × Int)) Unit :=
 if ZE (Je q t l vs step) (zF t) 0 < 0 then .ok () else .error (some (step, ZE (Je q t l vs step) (zF t) 0))
def y3K (t : List y0) (l : List ya) (vs : List ye) : Int × Int :=
 if ZE (ymo (zF t) l vs) l 0 < 0 then (0, 0) else (4, ZE (ymo (zF t) l vs) l 0)
def yaQ (q : List Int) (t : List y0) (l : List ya) (cs : List y7) (vs : List ye) (z : Int) : Option (Int × Int) :=
 if yQ q t l cs vs z = true then y8X (y9r q t l vs) (fun _ => some (y3K t l vs)) ([1, 2, 3] : List Int) 0 () else some (0, 0)
theorem yz4 (i : Int) (h0 : 0 ≤ i) (h1 : i < 3) : ([1, 2, 3] : List Int).getD i.toNat 0 = i + 1 := by
 have : i = 0 ∨ i = 1 ∨ i = 2 := by omega
 rcases this with rfl | rfl | rfl <;> rfl
theorem y9s (ht : TOk t) (hq : q.length ≤ 1048576) (hl : l.length ≤ 1048576) (hc : cs.length ≤ 1048576) (hv : vs.length ≤ 1048576) (hvn : ∀ v ∈ vs, ByteArray.size v.1 ≤ maxLen) : JO (q, t, l, cs, vs, z) = yaQ q t l cs vs z := by
 unfold JO yaQ
 have hk := ht.keys
 have e : yL (q, t) = some (zF t) := Yy q t (by have := ht.len; omega) ht.nodes ht.sum
 simp only [y15 q t l cs vs z ht hl hc hv hvn, e, Option.bind_some]
 cases hp : yQ q t l cs vs z
 ·rfl
 have hpos : ∀ a ∈ l, 1 ≤ a.1 := by
  refine ygO ?_
  unfold yQ at hp
  simp only [Bool.and_eq_true] at hp
  exact hp.2.1
 simp only [Bool.not_true, cond_false, if_true]
 unfold qz
 refine y8Y (step := j9 _ _) (fun i (_ : Unit) => (i + 1, q, t, l, cs, vs, z, zF t)) (y9r q t l vs) (fun _ => some (y3K t l vs)) 0 ([1, 2, 3] : List Int) (by decide) (fun _ _ => True) (fun again i s h0 h1 _ => ⟨?_, fun _ _ => trivial⟩) ?_ () trivial
 ·have h1' : i < 3 := h1
  rw [yz4 i h0 h1']
  have hw : Go.IntKind.wrap .i64 (i + 1 + 1) = i + 1 + 1 := w64 (by omega) (by omega)
  unfold j9 y9r
  have hle : i + 1 ≤ 3 := by omega
  simp only [Bool.cond_eq_ite, decide_eq_true_eq, hle, if_true]
  unfold qy
  refine (Zw (step := j8 _ _) (fun j => (i + 1, j, q, t, l, cs, vs, z, zF t)) (Je q t l vs (i + 1)) (fun j => some (i + 1, j)) (again (i + 1 + 1, q, t, l, cs, vs, z, zF t)) zb (zF t) (by omega) ?_ ?_).trans ?_
  ·intro again' j j0 j1
   have hwj : Go.IntKind.wrap .i64 (j + 1) = j + 1 := w64 (by omega) (by omega)
   unfold j8
   obtain ⟨⟨x1, x2, x3, x4, x5⟩, hx⟩ : ∃ x, y6 (zF t) j = x := ⟨_, rfl⟩
   have hx' : (zF t).getD j.toNat zb = (x1, x2, x3, x4, x5) := hx
   rw [hx']
   simp only [Bool.cond_eq_ite, decide_eq_true_eq, j0, j1, if_true, hwj, hx, y4E q t l cs vs z ht hq hl hv hpos (i + 1) x1 x2 x3 x4 x5, Option.bind_some]
  ·intro again' j hj
   unfold j8
   simp only [Bool.cond_eq_ite, decide_eq_true_eq, if_neg hj, hw]
  ·split <;> rfl
 ·intro again i s hi
  have hi' : ¬ i < 3 := hi
  have hle : ¬ i + 1 ≤ 3 := by omega
  unfold j9
  simp only [Bool.cond_eq_ite, decide_eq_true_eq, if_neg hle]
  unfold VE y3K
  refine (Zw (step := Zv _ _) (fun j => (j, q, t, l, cs, vs, z)) (ymo (zF t) l vs) (fun j => some (4, j)) (some (0, 0)) YT l (by omega) ?_ ?_).trans ?_
  ·intro again' j j0 j1
   have hwj : Go.IntKind.wrap .i64 (j + 1) = j + 1 := w64 (by omega) (by omega)
   unfold Zv
   have hx : l.getD j.toNat YT = yD l j := rfl
   rw [hx]
   simp only [Bool.cond_eq_ite, decide_eq_true_eq, j0, j1, if_true, hwj, yaP q t l cs vs z ht hl hv (yD l j), Option.bind_some]
  ·intro again' j hj
   unfold Zv
   simp only [Bool.cond_eq_ite, decide_eq_true_eq, if_neg hj]
  ·split <;> rfl
theorem y9t {S A R : Type} (g : Int → S → A → Except (Option R) S) (k : S → Option R) (hg : ∀ i s a r, g i s a = .error r → ∃ x, r = some x) (hk : ∀ s, ∃ x, k s = some x) : ∀ (l : List A) (i : Int) (s : S), ∃ x, y8X g k l i s = some x
 | [], i, s => hk s
 | a :: l, i, s => by
  rw [y8X]
  cases h : g i s a with
  | error r => exact hg i s a r h
  | ok s' => exact y9t g k hg hk l (i + 1) s'
theorem ycT : ∃ r, yaQ q t l cs vs z = some r := by
 unfold yaQ
 split
 ·refine y9t _ _ (fun i s a r h => ?_) (fun s => ⟨_, rfl⟩) _ _ _
  unfold y9r at h
  split at h
  ·cases h
  ·injection h with h
   exact ⟨_, h.symm⟩
 ·exact ⟨_, rfl⟩
end
end Go.Proofs.YthgdjjdigalckaaGreat.Pl
namespace Go.Proofs.YthgdjjdigalckaaGreat.Pl
open Go.Proofs.YthgdjjdigalckaaGreat.R Go.Proofs.YthgdjjdigalckaaGreat.XB
structure SP (q : List yd) (t : List y0) (l : List ya) (cs : List y7) (vs : List ye) : Prop where
 S : small q t l cs vs
 N : ∀ v ∈ vs, ByteArray.size v.1 ≤ maxLen
structure TQ (q : List yd) (t : List y0) : Prop where
 T : TOk t
 Q : ∀ n ∈ t, y35 n
 q : q.length ≤ 1048576
theorem SP.tq {q : List yd} {t : List y0} {l : List ya} {cs : List y7} {vs : List ye} (h : SP q t l cs vs) : TQ q t :=
 ⟨⟨h.S.2.1, fun n hn => by have := (Wi h.S.2.2.1 hn).1; omega, h.S.2.2.1⟩, fun n hn => Wi h.S.2.2.1 hn, h.S.1⟩
theorem TQ.sp {q q' : List yd} {t t' : List y0} {l l' : List ya} {cs cs' : List y7} {vs : List ye} (h : TQ q' t') (h2 : SP q t l cs vs) (hl : l'.length ≤ 1048576) (hc : cs'.length ≤ 1048576) : SP q' t' l' cs' vs :=
 ⟨⟨h.q, h.T.len, h.T.sum, hl, hc, h2.S.2.2.2.2.2⟩, h2.N⟩
theorem TS.tq {q : List yd} {t : List y0} (h : TS t) (hq : q.length ≤ 1048576) : TQ q t := ⟨h.ok, fun n hn => (h.node n hn).q, hq⟩
theorem Kh {q : List yd} {t : List y0} (k : y9) (h : TQ q t) : TQ (yx q t k).1 (yx q t k).2.1 := by
 unfold yx
 split
 ·rename_i hh
  rw [Bool.and_eq_true] at hh
  split
  ·rename_i hj
   have hT := y22 hj
   have := (wR hj)
   exact hT.tq (by simp only; omega)
  ·exact h
 ·exact h
def y2u (k : y9) : y9 := (k.1, k.2.1, 0, 0, 0)
def Q1 (q : List yd) (t : List y0) (cs : List y7) (k : y9) : List y7 := if (jC q t k.1 k.2.1).2.2.2.2.2 = true ∧ (jC q t k.1 k.2.1).2.2.1 = 1 then y5b cs (jC q t k.1 k.2.1).2.2.2.1 else cs
theorem y4F (q : List yd) (t : List y0) (cs : List y7) (k : y9) : (Q1 q t cs k).length = cs.length := by
 unfold Q1
 split
 ·exact y24 _ _
 ·rfl
abbrev PO : Type := List yd × List y0 × List ya × List y7 × List ye × Int
section
variable (q : List yd) (t : List y0) (l : List ya) (cs : List y7) (vs : List ye) (z : Int)
def JZ (t : List y0) (i : Int) : y9 := (zF t).getD i.toNat zb
def W0 (step i : Int) : PO × Bool :=
 if step = 1 ∨ step = 2 then (((yx q t (y2u (JZ t i))).1, (yx q t (y2u (JZ t i))).2.1, l, Q1 q t cs (JZ t i), vs, z), (yx q t (y2u (JZ t i))).2.2)
 else if step = 3 then
  (((yx (yx q t (y2u (JZ t i))).1 (yx q t (y2u (JZ t i))).2.1 ((JZ t i).1, (Yx l (JZ t i).2.1).getD 0 0, (JZ t i).2.2)).1,
   (yx (yx q t (y2u (JZ t i))).1 (yx q t (y2u (JZ t i))).2.1 ((JZ t i).1, (Yx l (JZ t i).2.1).getD 0 0, (JZ t i).2.2)).2.1, l, cs, vs, z),
   (yx q t (y2u (JZ t i))).2.2 && (yx (yx q t (y2u (JZ t i))).1 (yx q t (y2u (JZ t i))).2.1 ((JZ t i).1, (Yx l (JZ t i).2.1).getD 0 0, (JZ t i).2.2)).2.2)
 else ((q, t, (y4D l (l.getD i.toNat YT).1).1, cs, vs, z), (y4D l (l.getD i.toNat YT).1).2)
noncomputable def ym2 (p : PO) : Bool := yQ p.1 p.2.1 p.2.2.1 p.2.2.2.1 p.2.2.2.2.1 p.2.2.2.2.2
noncomputable def ymp (p : PO) (r : PO × Bool) : PO × Bool := if (r.2 && ym2 r.1) = true then (r.1, true) else (p, false)
noncomputable def y61 : PO × Bool := match yaQ q t l cs vs z with
 | some (step, i) => if step = 0 then ((q, t, l, cs, vs, z), false) else ymp (q, t, l, cs, vs, z) (W0 q t l cs vs z step i)
 | none => ((q, t, l, cs, vs, z), false)
def yeF (r : PO × Bool) : List yd × List y0 × List ya × List y7 × List ye × Int × Bool := (r.1.1, r.1.2.1, r.1.2.2.1, r.1.2.2.2.1, r.1.2.2.2.2.1, r.1.2.2.2.2.2, r.2)
theorem ycU {step i : Int} (h : yaQ q t l cs vs z = some (step, i)) : step = 0 ∨ ((step = 1 ∨ step = 2 ∨ step = 3) ∧ 0 ≤ i ∧ i < ((zF t).length : Int) ∧ Je q t l vs step (JZ t i) = true) ∨ (step = 4 ∧ 0 ≤ i ∧ i < (l.length : Int)) := by
 have hfind : ∀ s, (s = 1 ∨ s = 2 ∨ s = 3) → ¬ ZE (Je q t l vs s) (zF t) 0 < 0 → (step, i) = (s, ZE (Je q t l vs s) (zF t) 0) → step = 0 ∨ ((step = 1 ∨ step = 2 ∨ step = 3) ∧ 0 ≤ i ∧ i < ((zF t).length : Int) ∧ Je q t l vs step (JZ t i) = true) ∨ (step = 4 ∧ 0 ≤ i ∧ i < (l.length : Int)) := by
  intro s hs h0 he
  injection he with h1 h2
  subst h1 h2
  rcases Kg (Je q t l vs step) zb (zF t) 0 (Int.le_refl _) with h | ⟨h1, h2, h3⟩
  ·omega
  ·rw [Int.sub_zero] at h3
   exact .inr (.inl ⟨hs, h1, by omega, h3⟩)
 unfold yaQ at h
 split at h
 ·simp only [y8X, y9r] at h
  by_cases h1 : ZE (Je q t l vs 1) (zF t) 0 < 0
  ·simp only [if_pos h1] at h
   by_cases h2 : ZE (Je q t l vs 2) (zF t) 0 < 0
   ·simp only [if_pos h2] at h
    by_cases h3 : ZE (Je q t l vs 3) (zF t) 0 < 0
    ·simp only [if_pos h3] at h
     injection h with h
     unfold y3K at h
     split at h
     ·injection h with h4 h5
      exact .inl h4.symm
     ·rename_i h4
      injection h with h5 h6
      rcases y3J (ymo (zF t) l vs) l 0 with h | ⟨h7, h8⟩
      ·omega
      ·exact .inr (.inr ⟨h5.symm, by omega, by omega⟩)
    ·simp only [if_neg h3] at h
     injection h with h
     exact hfind 3 (by simp) h3 h.symm
   ·simp only [if_neg h2] at h
    injection h with h
    exact hfind 2 (by simp) h2 h.symm
  ·simp only [if_neg h1] at h
   injection h with h
   exact hfind 1 (by simp) h1 h.symm
 ·injection h with h
  injection h with h1 h2
  exact .inl h1.symm
variable {q t l cs vs} (h : SP q t l cs vs)
include h
theorem yeG (step i : Int) : SP (W0 q t l cs vs z step i).1.1 (W0 q t l cs vs z step i).1.2.1 (W0 q t l cs vs z step i).1.2.2.1 (W0 q t l cs vs z step i).1.2.2.2.1 (W0 q t l cs vs z step i).1.2.2.2.2.1 := by
 have hl := h.S.2.2.2.1
 have hc := h.S.2.2.2.2.1
 unfold W0
 split
 ·exact (Kh _ h.tq).sp h hl (by rw [y4F]; exact hc)
 ·split
  ·exact (Kh _ (Kh _ h.tq)).sp h hl hc
  ·refine h.tq.sp h ?_ hc
   unfold y4D
   split
   ·exact hl
   ·split
    ·unfold yBU
     exact Nat.le_trans (List.length_eraseIdx_le _ _) (by simpa using hl)
    ·exact hl
theorem y9u (a b c d e : Int) : ZD (q, t, l, cs, vs, z, a, b, c, d, e) = some (if (yx q t (a, b, 0, 0, 0)).2.2 = true then (true, (yx q t (a, b, 0, 0, 0)).1, (yx q t (a, b, 0, 0, 0)).2.1, l, Q1 q t cs (a, b, c, d, e), vs, z) else (false, q, t, l, cs, vs, z)) := by
 have hq := h.tq
 unfold ZD zd
 simp only [J7 q t a b hq.T hq.q, Z4 q t a b 0 0 0 hq.T hq.Q hq.q, Option.bind_some]
 cases hr : (yx q t (a, b, 0, 0, 0)).2.2 with
 | false => rfl
 | true =>
  unfold J4 Q1
  simp only [Bool.not_true, cond_false, if_true, jW cs _ h.S.2.2.2.2.1, Option.bind_some]
  cases (jC q t a b).2.2.2.2.2 with
  | false => rfl
  | true =>
   by_cases h1 : (jC q t a b).2.2.1 = 1
   ·rw [if_pos ⟨rfl, h1⟩]
    simp only [h1, cond_true, Option.bind_some, beq_self_eq_true]
   ·rw [if_neg fun hh => h1 hh.2]
    simp only [cond_true, Option.bind_some, beq_eq_false_iff_ne.2 h1, cond_false]
theorem ZF : yJ (q, t, l, cs, vs, z) = some (yQ q t l cs vs z) := y15 q t l cs vs z h.tq.T h.S.2.2.2.1 h.S.2.2.2.2.1 h.S.2.2.2.2.2 h.N
theorem wT : Yk (q, t, l, cs, vs, z) = some (yQ q t l cs vs z) := y56 q t l cs vs z h.tq.T h.S.2.2.2.1 h.S.2.2.2.2.1 h.S.2.2.2.2.2 h.N
end
end Go.Proofs.YthgdjjdigalckaaGreat.Pl
