/- Base, Loops, Keys, Pool, Tree, Seen, Rng, Walk, See, Oks, Whole, Trees, Names, PoolOk, PoolOk2, PoolOk3, PutPool0, SetSrt, Join, CopyPool, Next, NodePut, JoinT, TreePut, CutAge, Calm, Prune, Prune2, StepsC. No condition. -/
import Derived.Test.YthgdjjdigalckaaGreatDC1
import Derived.Laws.BitsLemmas
set_option linter.all false
namespace Go.Proofs.YthgdjjdigalckaaGreat.Pl
open Go.Proofs.YthgdjjdigalckaaGreat.R Go.Proofs.YthgdjjdigalckaaGreat.XC
theorem ymr {T R : Type} {step : (T → Option R) → T → Option R} (μ : T → Nat) (inv : T → Prop) (G : T → Option R)
  (h : ∀ again t, inv t → (∀ t', inv t' → μ t' < μ t → again t' = G t') → step again t = G t) : ∀ (n : Nat) (t : T), inv t → μ t < n → zx step n t = G t := by
 intro n
 induction n with
 | zero => intro t _ hn; omega
 | succ n ih =>
  intro t ht hn
  rw [zx]
  exact h _ t ht fun t' ht' hlt => ih t' ht' (by omega)
theorem Ys {T R : Type} {step : (T → Option R) → T → Option R} (μ : T → Nat) (inv : T → Prop) (G : T → Option R)
  (h : ∀ again t, inv t → (∀ t', inv t' → μ t' < μ t → again t' = G t') → step again t = G t) (t : T) (ht : inv t) (hn : μ t < 18446744073709551616) : zx step zO t = G t :=
 ymr μ inv G h zO t ht (by rw [y1q]; exact hn)
theorem w64 {n : Int} (h0 : -9223372036854775808 ≤ n) (h1 : n ≤ 9223372036854775807) : Go.IntKind.wrap .i64 n = n := by
 rw [IntKind.wrap_i64]
 omega
def inR (x a b : Int) : Bool := decide (a ≤ x) && decide (x ≤ b)
theorem jS {x a b : Int} : inR x a b = true ↔ a ≤ x ∧ x ≤ b := by simp [inR]
theorem ydh (n : Nat) (h : n < 9223372036854775808) : IntKind.i64.wrap (n : Int) = n := by
 rw [IntKind.wrap_i64]
 omega
theorem ybh (x : Int) : ((BitVec.ofInt 64 x).toNat : Int) = x % 18446744073709551616 := by
 rw [BitVec.toNat_ofInt]
 omega
theorem yhp (x : Int) (m : Nat) (j : Nat) (hj : j < 63) (hm : m = 2 ^ j - 1) : bits .and .i64 x m = x % (2 ^ j : Nat) := by
 have hd : (2 ^ j : Nat) ∣ 18446744073709551616 := by
  have : (18446744073709551616 : Nat) = 2 ^ j * 2 ^ (64 - j) := by rw [← Nat.pow_add, show j + (64 - j) = 64 by omega]
  rw [this]
  exact Nat.dvd_mul_right _ _
 have hlt : m < 18446744073709551616 := by
  have : 2 ^ j ≤ 2 ^ 64 := Nat.pow_le_pow_right (by omega) (by omega)
  have h1 : 0 < 2 ^ j := Nat.two_pow_pos j
  omega
 have hj63 : 2 ^ j < 9223372036854775808 := by
  have : 2 ^ j ≤ 2 ^ 62 := Nat.pow_le_pow_right (by omega) (by omega)
  omega
 show IntKind.i64.wrap ((BitVec.ofInt 64 x &&& BitVec.ofInt 64 (m : Int)).toNat : Int) = _
 rw [BitVec.toNat_and, BitVec.ofInt_natCast, BitVec.toNat_ofNat, Nat.mod_eq_of_lt hlt, hm, Nat.and_two_pow_sub_one_eq_mod]
 have h2 := Nat.mod_lt (BitVec.ofInt 64 x).toNat (Nat.two_pow_pos j)
 rw [ydh _ (by omega), Int.natCast_emod, ybh]
 exact Int.emod_emod_of_dvd _ (Int.ofNat_dvd.2 hd)
theorem yuK (x : Int) : bits .and .i64 x 255 = x % 256 := yhp x 255 8 (by omega) (by decide)
def by_ (l : List Int) (i : Int) : Int := l.getD i.toNat 0
end Go.Proofs.YthgdjjdigalckaaGreat.Pl
namespace Go.Proofs.YthgdjjdigalckaaGreat.Pl
open Go.Proofs.YthgdjjdigalckaaGreat.R Go.Proofs.YthgdjjdigalckaaGreat.XC
theorem Zm {T R : Type} {step : (T → Option R) → T → Option R} (μ : T → Nat) (inv : T → Prop) (Q : T → Option R → Prop)
  (h : ∀ again t, inv t → (∀ t', inv t' → μ t' < μ t → Q t' (again t')) → Q t (step again t)) (t : T) (ht : inv t) (hn : μ t < 18446744073709551616) : Q t (zx step zO t) := by
 have key : ∀ (n : Nat) (t : T), inv t → μ t < n → Q t (zx step n t) := by
  intro n
  induction n with
  | zero => intro t _ hn; omega
  | succ n ih =>
   intro t ht hn
   rw [zx]
   exact h _ t ht fun t' ht' hlt => ih t' ht' (by omega)
 exact key zO t ht (by rw [y1q]; exact hn)
theorem y8h {A : Type} (da : A) (l : List A) (i : Int) (h0 : 0 ≤ i) (h : i < l.length) : l.getD i.toNat da = l[i.toNat]'(by omega) := by
 rw [List.getD_eq_getElem?_getD, List.getElem?_eq_getElem (by omega)]
 rfl
theorem zg {A : Type} (da : A) (l : List A) (i : Int) (h0 : 0 ≤ i) (h : i < l.length) : l.getD i.toNat da ∈ l := by
 rw [y8h da l i h0 h]
 exact List.getElem_mem _
theorem JC {A : Type} (da : A) (l : List A) (i : Int) (h0 : 0 ≤ i) (h : i < l.length) : l.drop i.toNat = l.getD i.toNat da :: l.drop (i + 1).toNat := by
 rw [y8h da l i h0 h, show (i + 1).toNat = i.toNat + 1 by omega, ← List.drop_eq_getElem_cons]
def W4 {A : Type} (w : A → Int) (l : List A) : Int := l.foldr (fun a s => w a + s) 0
theorem Y1 {A : Type} (w : A → Int) (a : A) (l : List A) : W4 w (a :: l) = w a + W4 w l := rfl
theorem y0K {A : Type} {w : A → Int} (hw : ∀ a, 0 ≤ w a) : ∀ {l : List A} {a : A}, a ∈ l → w a ≤ W4 w l ∧ 0 ≤ W4 w l
 | b :: l, a, h => by
  have hs : 0 ≤ W4 w l := by
   clear h
   induction l with
   | nil => exact Int.le_refl _
   | cons c l ih => rw [Y1]; have := hw c; omega
  rw [Y1]
  have := hw b
  rcases List.mem_cons.1 h with rfl | h
  ·omega
  ·have := (y0K hw h).1
   omega
theorem wN {A : Type} {w : A → Int} (hw : ∀ a, 0 ≤ w a) (l : List A) : 0 ≤ W4 w l := by
 induction l with
 | nil => exact Int.le_refl _
 | cons c l ih => rw [Y1]; have := hw c; omega
end Go.Proofs.YthgdjjdigalckaaGreat.Pl
namespace Go.Proofs.YthgdjjdigalckaaGreat.Pl
open Go.Proofs.YthgdjjdigalckaaGreat.R Go.Proofs.YthgdjjdigalckaaGreat.XC
theorem zL {T A S R : Type} {step : (T → Option R) → T → Option R} (mk : Int → S → T) (k : S → Option R) (da : A) (g : S → A → S) (l : List A) (hl : l.length ≤ 1099511627776) (I : Nat → S → Prop)
  (h : ∀ again i s, 0 ≤ i → i < (l.length : Int) → I i.toNat s → step again (mk i s) = again (mk (i + 1) (g s (l.getD i.toNat da))) ∧ I (i.toNat + 1) (g s (l.getD i.toNat da)))
  (hd : ∀ again i s, ¬ i < (l.length : Int) → step again (mk i s) = k s) (s : S) (hs : I 0 s) : zx step zO (mk 0 s) = k (l.foldl g s) := by
 have key : ∀ (n : Nat) (i : Int) (s : S), 0 ≤ i → i ≤ l.length → I i.toNat s → l.length - i.toNat < n → zx step n (mk i s) = k ((l.drop i.toNat).foldl g s) := by
  intro n
  induction n with
  | zero => intro i s _ _ _ hn; omega
  | succ n ih =>
   intro i s h0 h1 hI hn
   rw [zx]
   by_cases hi : i < (l.length : Int)
   ·obtain ⟨e, hI'⟩ := h (zx step n) i s h0 hi hI
    have e1 : (i + 1).toNat = i.toNat + 1 := by omega
    rw [e, ih (i + 1) _ (by omega) (by omega) (by rw [e1]; exact hI') (by omega), JC da l i h0 hi]
    rfl
   ·rw [hd _ i s hi, List.drop_of_length_le (by omega)]
    rfl
 have := key zO 0 s (by omega) (by omega) hs (by rw [y1q]; simp; omega)
 simpa using this
def qV (c k : y9) : Bool := if c.1 < k.1 then true else if c.1 = k.1 then decide (c.2.1 < k.2.1) else false
def qW (c k : y9) : Bool := decide (c.1 = k.1) && decide (c.2.1 = k.2.1)
theorem y0l (a1 a2 a3 a4 a5 b1 b2 b3 b4 b5 : Int) : jK (a1, a2, a3, a4, a5, b1, b2, b3, b4, b5) = some (qV (a1, a2, a3, a4, a5) (b1, b2, b3, b4, b5)) := by
 unfold jK qV
 by_cases h : a1 = b1
 ·subst h
  simp
 ·have hb : (a1 == b1) = false := by simpa using h
  have hb' : (a1 != b1) = true := by simpa using h
  by_cases h2 : a1 < b1 <;> simp [h, h2, hb, hb']
theorem y0m (a1 a2 a3 a4 a5 b1 b2 b3 b4 b5 : Int) : jP (a1, a2, a3, a4, a5, b1, b2, b3, b4, b5) = some (qV (a1, a2, a3, a4, a5) (b1, b2, b3, b4, b5)) := by
 unfold jP qV
 by_cases h : a1 = b1
 ·subst h
  simp
 ·have hb : (a1 == b1) = false := by simpa using h
  have hb' : (a1 != b1) = true := by simpa using h
  by_cases h2 : a1 < b1 <;> simp [h, h2, hb, hb']
theorem y3h (a1 a2 a3 a4 a5 b1 b2 b3 b4 b5 : Int) : ZK (a1, a2, a3, a4, a5, b1, b2, b3, b4, b5) = some (qW (a1, a2, a3, a4, a5) (b1, b2, b3, b4, b5)) := by
 unfold ZK qW
 have e1 : (a1 == b1) = decide (a1 = b1) := rfl
 have e2 : (a2 == b2) = decide (a2 = b2) := rfl
 simp only [e1, e2]
 cases decide (a1 = b1) <;> cases decide (a2 = b2) <;> rfl
theorem y3i (a1 a2 a3 a4 a5 b1 b2 b3 b4 b5 : Int) : ZR (a1, a2, a3, a4, a5, b1, b2, b3, b4, b5) = some (qW (a1, a2, a3, a4, a5) (b1, b2, b3, b4, b5)) := by
 unfold ZR qW
 have e1 : (a1 == b1) = decide (a1 = b1) := rfl
 have e2 : (a2 == b2) = decide (a2 = b2) := rfl
 simp only [e1, e2]
 cases decide (a1 = b1) <;> cases decide (a2 = b2) <;> rfl
theorem yvq {n k : Nat} (h : n ≤ 1073741825) (hk : (1073741825 + k) * 40 < 140737488355328) : (n + k) * 40 < 140737488355328 := by omega
def jT (k : y9) (s : Bool × List y9) (c : y9) : Bool × List y9 :=
 if s.1 = false ∧ qV c k = false then (true, if qW c k then s.2 ++ [k] else s.2 ++ [k] ++ [c]) else (s.1, if qW c k then s.2 else s.2 ++ [c])
def JZ (l : List y9) (k : y9) : List y9 :=
 let r := l.foldl (jT k) (false, [])
 if r.1 then r.2 else r.2 ++ [k]
def pN (p : Bool) : Nat := if p then 1 else 0
theorem y4G (k : y9) (s : Bool × List y9) (c : y9) : (jT k s c).2.length + pN s.1 ≤ s.2.length + 1 + pN (jT k s c).1 ∧ pN (jT k s c).1 ≤ 1 := by
 unfold jT pN
 obtain ⟨p, o⟩ := s
 cases p <;> cases qV c k <;> cases qW c k <;> simp
theorem y0L (k : y9) : ∀ (l : List y9) (s : Bool × List y9), (l.foldl (jT k) s).2.length + pN s.1 ≤ s.2.length + l.length + pN (l.foldl (jT k) s).1
 | [], s => by simp
 | c :: l, s => by
  have h1 := (y4G k s c).1
  have h2 := y0L k l (jT k s c)
  simp only [List.foldl_cons, List.length_cons] at h2 ⊢
  omega
theorem JX (l : List y9) (k : y9) : (JZ l k).length ≤ l.length + 1 := by
 have h := y0L k l (false, [])
 unfold JZ
 simp only [pN, List.length_nil, Bool.false_eq_true, if_false] at h ⊢
 cases hr : (l.foldl (jT k) (false, [])).1 with
 | true =>
  rw [hr] at h
  simp at h ⊢
  omega
 | false =>
  rw [hr] at h
  simp at h ⊢
  omega
theorem y3j {R : Type} (k0 : Bool × Int × Int × Int × Int × Int × List y9 → Option R) (again : Wf → Option R) (l : List y9) (i : Int) (p : Bool) (a b c d e : Int) (o : List y9) (hl : l.length ≤ 1073741824) (h0 : 0 ≤ i) (h1 : i < (l.length : Int)) (ho : o.length ≤ 1073741825) :
  YF k0 again (l, p, i, a, b, c, d, e, o) = again (l, (jT (a, b, c, d, e) (p, o) (l.getD i.toNat z6)).1, i + 1, a, b, c, d, e, (jT (a, b, c, d, e) (p, o) (l.getD i.toNat z6)).2) := by
 have hw : Go.IntKind.wrap .i64 (i + 1) = i + 1 := w64 (by omega) (by omega)
 have c1 : (o.length + (0 + 1)) * 40 < 140737488355328 := yvq ho (by decide)
 have c2 : (o.length + (0 + 1) + (0 + 1)) * 40 < 140737488355328 := by rw [Nat.add_assoc]; exact yvq ho (by decide)
 obtain ⟨⟨x1, x2, x3, x4, x5⟩, hx⟩ : ∃ x, y0 l i = x := ⟨_, rfl⟩
 have hx' : l.getD i.toNat z6 = (x1, x2, x3, x4, x5) := hx
 rw [hx']
 unfold YF
 simp only [Bool.cond_eq_ite, decide_eq_true_eq, h0, h1, if_true, hw, hx, y0l, y3h, Option.bind_some, List.length_append, List.length_cons, List.length_nil]
 unfold jT
 generalize qV (x1, x2, x3, x4, x5) (a, b, c, d, e) = q1
 generalize qW (x1, x2, x3, x4, x5) (a, b, c, d, e) = q2
 simp only [c1, c2, if_true]
 cases p <;> cases q1 <;> cases q2 <;> rfl
theorem y3k {R : Type} (k0 : Bool × Int × Int × Int × Int × Int × List y9 → Option R) (l : List y9) (a b c d e : Int) (hl : l.length ≤ 1073741824) :
  vt k0 (l, false, 0, a, b, c, d, e, []) = k0 ((l.foldl (jT (a, b, c, d, e)) (false, [])).1, a, b, c, d, e, (l.foldl (jT (a, b, c, d, e)) (false, [])).2) := by
 unfold vt
 refine zL (step := YF k0) (fun (i : Int) (s : Bool × List y9) => (l, s.1, i, a, b, c, d, e, s.2)) (fun s => k0 (s.1, a, b, c, d, e, s.2)) z6 (jT (a, b, c, d, e)) l (by omega) (fun i s => s.2.length ≤ i + pN s.1) ?_ ?_ (false, []) (by simp)
 ·rintro again i ⟨p, o⟩ h0 h1 hI
  have hp : pN p ≤ 1 := by cases p <;> decide
  have hI' : o.length ≤ i.toNat + pN p := hI
  clear hI
  refine ⟨y3j k0 again l i p a b c d e o hl h0 h1 (by omega), ?_⟩
  have ho := (y4G (a, b, c, d, e) (p, o) (l.getD i.toNat z6)).1
  show (jT (a, b, c, d, e) (p, o) (l.getD i.toNat z6)).2.length ≤ i.toNat + 1 + pN (jT (a, b, c, d, e) (p, o) (l.getD i.toNat z6)).1
  generalize (jT (a, b, c, d, e) (p, o) (l.getD i.toNat z6)) = r at ho ⊢
  simp only at ho
  omega
 ·rintro again i ⟨p, o⟩ hi
  show YF k0 again (l, p, i, a, b, c, d, e, o) = _
  unfold YF
  simp only [Bool.cond_eq_ite, decide_eq_true_eq, if_neg hi]
theorem wx (l : List y9) (a b c d e : Int) (hl : l.length ≤ 1073741824) : zr (l, a, b, c, d, e) = some (JZ l (a, b, c, d, e)) := by
 have hlen := y0L (a, b, c, d, e) l (false, [])
 unfold zr JZ
 rw [y3k _ l a b c d e hl]
 generalize l.foldl (jT (a, b, c, d, e)) (false, []) = r at hlen ⊢
 obtain ⟨q, o⟩ := r
 cases q with
 | true => rfl
 | false =>
  simp only [pN, List.length_nil, Bool.false_eq_true, if_false] at hlen
  simp only [Bool.not_false, cond_true, List.length_cons, List.length_nil, Bool.false_eq_true, if_false]
  rw [if_pos (by omega)]
theorem y3l {R : Type} (k0 : Bool × Int × Int × Int × Int × Int × List y9 → Option R) (again : WU → Option R) (l : List y9) (i : Int) (p : Bool) (a b c d e : Int) (o : List y9) (hl : l.length ≤ 1073741824) (h0 : 0 ≤ i) (h1 : i < (l.length : Int)) (ho : o.length ≤ 1073741825) :
  YM k0 again (p, l, (l.length : Int), i, a, b, c, d, e, o) = again ((jT (a, b, c, d, e) (p, o) (l.getD i.toNat z6)).1, l, (l.length : Int), i + 1, a, b, c, d, e, (jT (a, b, c, d, e) (p, o) (l.getD i.toNat z6)).2) := by
 have hw : Go.IntKind.wrap .i64 (i + 1) = i + 1 := w64 (by omega) (by omega)
 have c1 : (o.length + (0 + 1)) * 40 < 140737488355328 := yvq ho (by decide)
 have c2 : (o.length + (0 + 1) + (0 + 1)) * 40 < 140737488355328 := by rw [Nat.add_assoc]; exact yvq ho (by decide)
 obtain ⟨⟨x1, x2, x3, x4, x5⟩, hx⟩ : ∃ x, y0 l i = x := ⟨_, rfl⟩
 have hx' : l.getD i.toNat z6 = (x1, x2, x3, x4, x5) := hx
 rw [hx']
 unfold YM
 simp only [Bool.cond_eq_ite, decide_eq_true_eq, h0, h1, if_true, hw, hx, y0m, y3i, Option.bind_some, List.length_append, List.length_cons, List.length_nil]
 unfold jT
 generalize qV (x1, x2, x3, x4, x5) (a, b, c, d, e) = q1
 generalize qW (x1, x2, x3, x4, x5) (a, b, c, d, e) = q2
 simp only [c1, c2, if_true]
 cases p <;> cases q1 <;> cases q2 <;> rfl
theorem y3m {R : Type} (k0 : Bool × Int × Int × Int × Int × Int × List y9 → Option R) (l : List y9) (a b c d e : Int) (hl : l.length ≤ 1073741824) :
  vR k0 (false, l, (l.length : Int), 0, a, b, c, d, e, []) = k0 ((l.foldl (jT (a, b, c, d, e)) (false, [])).1, a, b, c, d, e, (l.foldl (jT (a, b, c, d, e)) (false, [])).2) := by
 unfold vR
 refine zL (step := YM k0) (fun (i : Int) (s : Bool × List y9) => (s.1, l, (l.length : Int), i, a, b, c, d, e, s.2)) (fun s => k0 (s.1, a, b, c, d, e, s.2)) z6 (jT (a, b, c, d, e)) l (by omega) (fun i s => s.2.length ≤ i + pN s.1) ?_ ?_ (false, []) (by simp)
 ·rintro again i ⟨p, o⟩ h0 h1 hI
  have hp : pN p ≤ 1 := by cases p <;> decide
  have hI' : o.length ≤ i.toNat + pN p := hI
  clear hI
  refine ⟨y3l k0 again l i p a b c d e o hl h0 h1 (by omega), ?_⟩
  have ho := (y4G (a, b, c, d, e) (p, o) (l.getD i.toNat z6)).1
  show (jT (a, b, c, d, e) (p, o) (l.getD i.toNat z6)).2.length ≤ i.toNat + 1 + pN (jT (a, b, c, d, e) (p, o) (l.getD i.toNat z6)).1
  generalize (jT (a, b, c, d, e) (p, o) (l.getD i.toNat z6)) = r at ho ⊢
  simp only at ho
  omega
 ·rintro again i ⟨p, o⟩ hi
  show YM k0 again (p, l, (l.length : Int), i, a, b, c, d, e, o) = _
  unfold YM
  simp only [Bool.cond_eq_ite, decide_eq_true_eq, if_neg hi]
theorem VN (l : List y9) (a b c d e : Int) (hl : l.length ≤ 1073741824) : jn (l, a, b, c, d, e) = some (JZ l (a, b, c, d, e)) := by
 have hlen := y0L (a, b, c, d, e) l (false, [])
 unfold jn JZ
 rw [y3m _ l a b c d e hl]
 generalize l.foldl (jT (a, b, c, d, e)) (false, []) = r at hlen ⊢
 obtain ⟨q, o⟩ := r
 cases q with
 | true => rfl
 | false =>
  simp only [pN, List.length_nil, Bool.false_eq_true, if_false] at hlen
  simp only [Bool.not_false, cond_true, List.length_cons, List.length_nil, Bool.false_eq_true, if_false]
  rw [if_pos (by omega)]
end Go.Proofs.YthgdjjdigalckaaGreat.Pl
namespace Go.Proofs.YthgdjjdigalckaaGreat.Pl
open Go.Proofs.YthgdjjdigalckaaGreat.R Go.Proofs.YthgdjjdigalckaaGreat.XC
def Qw (l : List ya) : Int := (List.length l : Int) + W4 (fun a : ya => (List.length a : Int)) l
theorem KF (l : List ya) : 0 ≤ Qw l := by
 have := wN (w := fun a : ya => (List.length a : Int)) (fun a => Int.natCast_nonneg _) l
 unfold Qw
 omega
end Go.Proofs.YthgdjjdigalckaaGreat.Pl
namespace Go.Proofs.YthgdjjdigalckaaGreat.Pl
open Go.Proofs.YthgdjjdigalckaaGreat.R Go.Proofs.YthgdjjdigalckaaGreat.XC
def W5 (a b : List y9) : List y9 := b.foldl JZ a
theorem y0M : ∀ (b a : List y9), (W5 a b).length ≤ a.length + b.length
 | [], a => by simp [W5]
 | c :: b, a => by
  have h := y0M b (JZ a c)
  have h2 := JX a c
  unfold W5 at h ⊢
  simp only [List.foldl_cons, List.length_cons] at h ⊢
  omega
def V8 (s : List y9) (c : y9) : List y9 := if c.2.2.1 = 0 then s else s ++ [c]
def y4H (l : List y9) : List y9 := l.foldl V8 []
theorem y1u (s : List y9) (c : y9) : (V8 s c).length ≤ s.length + 1 := by
 unfold V8
 split <;> simp
theorem y4I : ∀ (l s : List y9), (l.foldl V8 s).length ≤ s.length + l.length
 | [], s => by simp
 | c :: l, s => by
  have h := y4I l (V8 s c)
  have h2 := y1u s c
  simp only [List.foldl_cons, List.length_cons]
  omega
def Vi (a : ya) : Int := (List.length a : Int)
theorem K8 (a : ya) : 0 ≤ Vi a := Int.natCast_nonneg _
def z4 (n : List ya) : List y9 := y4H (n.foldl W5 [])
theorem y21 : ∀ (n : List ya) (s : List y9), ((n.foldl W5 s).length : Int) ≤ s.length + W4 Vi n
 | [], s => by simp [W4]
 | c :: n, s => by
  have h := y21 n (W5 s c)
  have h2 := y0M c s
  simp only [List.foldl_cons, Y1, Vi]
  omega
theorem V9 (n : List ya) : ((z4 n).length : Int) ≤ W4 Vi n := by
 have h := y4I (n.foldl W5 []) []
 have h2 := y21 n []
 unfold z4 y4H
 simp only [List.length_nil] at h h2
 omega
theorem y22 (n : List ya) : W4 Vi n ≤ Qw n := by
 show W4 (fun a : ya => (List.length a : Int)) n ≤ (List.length n : Int) + W4 (fun a : ya => (List.length a : Int)) n
 omega
def KS (s : List y9) (n : y8) : List y9 := s ++ z4 n
def zb (t : List y8) : List y9 := t.foldl KS []
theorem y2z (a b : List y9) (h : a.length + b.length ≤ 1073741824) : YU (a, b) = some (W5 a b) := by
 unfold YU Vq
 simp only [List.length_nil, Nat.zero_add, List.nil_append]
 rw [if_pos (by omega)]
 refine zL (step := Z4 _) (fun (i : Int) (s : List y9) => (b, i, s)) (fun s => some s) z6 JZ b (by omega) (fun i s => s.length ≤ a.length + i) ?_ ?_ a (by simp)
 ·intro again i s h0 h1 hI
  have hw : Go.IntKind.wrap .i64 (i + 1) = i + 1 := w64 (by omega) (by omega)
  have hs := JX s (b.getD i.toNat z6)
  have e := wx s (y0 b i).1 (y0 b i).2.1 (y0 b i).2.2.1 (y0 b i).2.2.2.1 (y0 b i).2.2.2.2 (by omega)
  refine ⟨?_, by omega⟩
  unfold Z4
  simp only [Bool.cond_eq_ite, decide_eq_true_eq, h0, h1, if_true, hw, e, Option.bind_some]
  rfl
 ·intro again i s hi
  unfold Z4
  simp only [Bool.cond_eq_ite, decide_eq_true_eq, if_neg hi]
theorem y0n (l : List y9) (h : l.length ≤ 1073741824) : zT l = some (y4H l) := by
 unfold zT y1Y
 refine zL (step := We _) (fun (i : Int) (s : List y9) => (l, i, s)) (fun s => some s) z6 V8 l (by omega) (fun i s => s.length ≤ i) ?_ ?_ [] (by simp)
 ·intro again i s h0 h1 hI
  have hw : Go.IntKind.wrap .i64 (i + 1) = i + 1 := w64 (by omega) (by omega)
  have hs := y1u s (l.getD i.toNat z6)
  refine ⟨?_, by omega⟩
  have c1 : (s.length + 1) * 40 < 140737488355328 := by omega
  clear hs
  unfold We V8
  obtain ⟨⟨x1, x2, x3, x4, x5⟩, hx⟩ : ∃ x, y0 l i = x := ⟨_, rfl⟩
  have hx' : l.getD i.toNat z6 = (x1, x2, x3, x4, x5) := hx
  rw [hx']
  simp only [Bool.cond_eq_ite, decide_eq_true_eq, h0, h1, if_true, hw, hx, List.length_cons, List.length_nil, Nat.zero_add, c1]
  by_cases h3 : x3 = 0
  ·rw [if_neg (by simpa using h3), if_pos h3]
  ·rw [if_pos (by simpa using h3), if_neg h3]
 ·intro again i s hi
  unfold We
  simp only [Bool.cond_eq_ite, decide_eq_true_eq, if_neg hi]
theorem Z0 (n : List ya) (hn : n.length ≤ 1073741824) (h : W4 Vi n ≤ 1048576) : yE n = some (z4 n) := by
 have hlen := y21 n []
 simp only [List.length_nil] at hlen
 have hD := y0n (n.foldl W5 []) (by omega)
 unfold yE qn
 refine (zL (step := ZL _) (fun (i : Int) (s : List y9) => (i, n, s)) (fun s => Option.bind (zT s) fun r3 => some r3) yX W5 n (by omega) (fun i s => (s.length : Int) + W4 Vi (n.drop i) ≤ W4 Vi n) ?_ ?_ [] (by simp)).trans ?_
 ·intro again i s h0 h1 hI
  have hw : Go.IntKind.wrap .i64 (i + 1) = i + 1 := w64 (by omega) (by omega)
  rw [JC yX n i h0 h1, Y1, show (i + 1).toNat = i.toNat + 1 by omega] at hI
  have hnn := wN K8 (n.drop (i.toNat + 1))
  have hm := y0M (n.getD i.toNat yX) s
  have hk : Vi (n.getD i.toNat yX) = (List.length (n.getD i.toNat yX) : Int) := rfl
  have e : YU (s, yo n i) = some (W5 s (yo n i)) := y2z s _ (by show s.length + List.length (n.getD i.toNat yX) ≤ _; omega)
  refine ⟨?_, by omega⟩
  unfold ZL
  simp only [Bool.cond_eq_ite, decide_eq_true_eq, h0, h1, if_true, hw, e, Option.bind_some]
  rfl
 ·intro again i s hi
  unfold ZL
  simp only [Bool.cond_eq_ite, decide_eq_true_eq, if_neg hi]
 ·rw [hD]
  rfl
theorem zz (q : List Int) (t : List y8) (ht : t.length ≤ 1073741824) (hm : ∀ n ∈ t, List.length n ≤ 1073741824) (h : W4 Qw t ≤ 1048576) : yu (q, t) = some (zb t) := by
 unfold yu qp
 refine zL (step := ZM _) (fun (i : Int) (s : List y9) => (i, q, t, s)) (fun s => some s) yB KS t (by omega) (fun i s => (s.length : Int) + W4 Qw (t.drop i) ≤ W4 Qw t) ?_ ?_ [] (by simp)
 ·intro again i s h0 h1 hI
  have hw : Go.IntKind.wrap .i64 (i + 1) = i + 1 := w64 (by omega) (by omega)
  rw [JC yB t i h0 h1, Y1, show (i + 1).toNat = i.toNat + 1 by omega] at hI
  have hnn := wN KF (t.drop (i.toNat + 1))
  have hge := y22 (t.getD i.toNat yB)
  have hk := V9 (t.getD i.toNat yB)
  have e : yE (yh t i) = some (z4 (yh t i)) := Z0 _ (hm _ (zg yB t i h0 h1)) (by show W4 Vi (t.getD i.toNat yB) ≤ _; omega)
  have hT : (KS s (t.getD i.toNat yB)).length = s.length + (z4 (t.getD i.toNat yB)).length := List.length_append
  have c1 : (s.length + (z4 (yh t i)).length) * 40 < 140737488355328 := by
   show (s.length + (z4 (t.getD i.toNat yB)).length) * 40 < 140737488355328
   generalize (z4 (t.getD i.toNat yB)).length = m at hk ⊢
   clear hT e
   have : s.length + m ≤ 1048576 := by omega
   omega
  refine ⟨?_, by rw [hT]; omega⟩
  unfold ZM
  simp only [Bool.cond_eq_ite, decide_eq_true_eq, h0, h1, if_true, hw, e, Option.bind_some, c1]
  rfl
 ·intro again i s hi
  unfold ZM
  simp only [Bool.cond_eq_ite, decide_eq_true_eq, if_neg hi]
theorem y2A (a b : List y9) (h : a.length + b.length ≤ 1073741824) : YY (a, b) = some (W5 a b) := by
 unfold YY zV Vv
 simp only [List.length_nil, Nat.zero_add, List.nil_append]
 rw [if_pos (by omega), Option.bind_some]
 refine zL (step := Zd _) (fun (i : Int) (s : List y9) => (b, (b.length : Int), i, s)) (fun s => some s) z6 JZ b (by omega) (fun i s => s.length ≤ a.length + i) ?_ ?_ a (by simp)
 ·intro again i s h0 h1 hI
  have hw : Go.IntKind.wrap .i64 (i + 1) = i + 1 := w64 (by omega) (by omega)
  have hs := JX s (b.getD i.toNat z6)
  have e := VN s (y0 b i).1 (y0 b i).2.1 (y0 b i).2.2.1 (y0 b i).2.2.2.1 (y0 b i).2.2.2.2 (by omega)
  refine ⟨?_, by omega⟩
  unfold Zd
  simp only [Bool.cond_eq_ite, decide_eq_true_eq, h0, h1, if_true, hw, e, Option.bind_some]
  rfl
 ·intro again i s hi
  unfold Zd
  simp only [Bool.cond_eq_ite, decide_eq_true_eq, if_neg hi]
theorem y2Z (l : List y9) (h : l.length ≤ 1073741824) : Jp l = some (y4H l) := by
 unfold Jp y20
 refine zL (step := WW _) (fun (i : Int) (s : List y9) => (l, (l.length : Int), i, s)) (fun s => some s) z6 V8 l (by omega) (fun i s => s.length ≤ i) ?_ ?_ [] (by simp)
 ·intro again i s h0 h1 hI
  have hw : Go.IntKind.wrap .i64 (i + 1) = i + 1 := w64 (by omega) (by omega)
  have hs := y1u s (l.getD i.toNat z6)
  refine ⟨?_, by omega⟩
  have c1 : (s.length + 1) * 40 < 140737488355328 := by omega
  clear hs
  unfold WW V8
  obtain ⟨⟨x1, x2, x3, x4, x5⟩, hx⟩ : ∃ x, y0 l i = x := ⟨_, rfl⟩
  have hx' : l.getD i.toNat z6 = (x1, x2, x3, x4, x5) := hx
  rw [hx']
  simp only [Bool.cond_eq_ite, decide_eq_true_eq, h0, h1, if_true, hw, hx, List.length_cons, List.length_nil, Nat.zero_add, c1]
  by_cases h3 : x3 = 0
  ·rw [if_neg (by simpa using h3), if_pos h3]
  ·rw [if_pos (by simpa using h3), if_neg h3]
 ·intro again i s hi
  unfold WW
  simp only [Bool.cond_eq_ite, decide_eq_true_eq, if_neg hi]
theorem jH (n : List ya) (hn : n.length ≤ 1073741824) (h : W4 Vi n ≤ 1048576) : yN n = some (z4 n) := by
 have hlen := y21 n []
 simp only [List.length_nil] at hlen
 have hD := y2Z (n.foldl W5 []) (by omega)
 unfold yN qt
 refine (zL (step := ZS _) (fun (i : Int) (s : List y9) => (n, (n.length : Int), i, s)) (fun s => Option.bind (Jp s) fun r3 => some r3) yX W5 n (by omega) (fun i s => (s.length : Int) + W4 Vi (n.drop i) ≤ W4 Vi n) ?_ ?_ [] (by simp)).trans ?_
 ·intro again i s h0 h1 hI
  have hw : Go.IntKind.wrap .i64 (i + 1) = i + 1 := w64 (by omega) (by omega)
  rw [JC yX n i h0 h1, Y1, show (i + 1).toNat = i.toNat + 1 by omega] at hI
  have hnn := wN K8 (n.drop (i.toNat + 1))
  have hm := y0M (n.getD i.toNat yX) s
  have hk : Vi (n.getD i.toNat yX) = (List.length (n.getD i.toNat yX) : Int) := rfl
  have e : YY (s, yo n i) = some (W5 s (yo n i)) := y2A s _ (by show s.length + List.length (n.getD i.toNat yX) ≤ _; omega)
  refine ⟨?_, by omega⟩
  unfold ZS
  simp only [Bool.cond_eq_ite, decide_eq_true_eq, h0, h1, if_true, hw, e, Option.bind_some]
  rfl
 ·intro again i s hi
  unfold ZS
  simp only [Bool.cond_eq_ite, decide_eq_true_eq, if_neg hi]
 ·rw [hD]
  rfl
theorem Z1 (q : List Int) (t : List y8) (ht : t.length ≤ 1073741824) (hm : ∀ n ∈ t, List.length n ≤ 1073741824) (h : W4 Qw t ≤ 1048576) : yS (q, t) = some (zb t) := by
 unfold yS qu
 refine zL (step := ZT _) (fun (i : Int) (s : List y9) => (t, (t.length : Int), i, s)) (fun s => some s) yB KS t (by omega) (fun i s => (s.length : Int) + W4 Qw (t.drop i) ≤ W4 Qw t) ?_ ?_ [] (by simp)
 ·intro again i s h0 h1 hI
  have hw : Go.IntKind.wrap .i64 (i + 1) = i + 1 := w64 (by omega) (by omega)
  rw [JC yB t i h0 h1, Y1, show (i + 1).toNat = i.toNat + 1 by omega] at hI
  have hnn := wN KF (t.drop (i.toNat + 1))
  have hge := y22 (t.getD i.toNat yB)
  have hk := V9 (t.getD i.toNat yB)
  have e : yN (yh t i) = some (z4 (yh t i)) := jH _ (hm _ (zg yB t i h0 h1)) (by show W4 Vi (t.getD i.toNat yB) ≤ _; omega)
  have hT : (KS s (t.getD i.toNat yB)).length = s.length + (z4 (t.getD i.toNat yB)).length := List.length_append
  have c1 : (s.length + (z4 (yh t i)).length) * 40 < 140737488355328 := by
   show (s.length + (z4 (t.getD i.toNat yB)).length) * 40 < 140737488355328
   generalize (z4 (t.getD i.toNat yB)).length = m at hk ⊢
   clear hT e
   have : s.length + m ≤ 1048576 := by omega
   omega
  refine ⟨?_, by rw [hT]; omega⟩
  unfold ZT
  simp only [Bool.cond_eq_ite, decide_eq_true_eq, h0, h1, if_true, hw, e, Option.bind_some, c1]
  rfl
 ·intro again i s hi
  unfold ZT
  simp only [Bool.cond_eq_ite, decide_eq_true_eq, if_neg hi]
end Go.Proofs.YthgdjjdigalckaaGreat.Pl
namespace Go.Proofs.YthgdjjdigalckaaGreat.Pl
open Go.Proofs.YthgdjjdigalckaaGreat.R Go.Proofs.YthgdjjdigalckaaGreat.XC
def y9l {S A R : Type} (g : Int → S → A → Except (Option R) S) (k : S → Option R) : List A → Int → S → Option R
 | [], _, s => k s
 | a :: l, i, s => match g i s a with
  | .error r => r
  | .ok s' => y9l g k l (i + 1) s'
theorem y4J {T A S R : Type} {step : (T → Option R) → T → Option R} (mk : Int → S → T) (g : Int → S → A → Except (Option R) S) (k : S → Option R) (da : A) (l : List A) (hl : l.length ≤ 1099511627776) (I : Nat → S → Prop)
  (h : ∀ again i s, 0 ≤ i → i < (l.length : Int) → I i.toNat s → (step again (mk i s) = match g i s (l.getD i.toNat da) with
   | .error r => r
   | .ok s' => again (mk (i + 1) s')) ∧ ∀ s', g i s (l.getD i.toNat da) = .ok s' → I (i.toNat + 1) s')
  (hd : ∀ again i s, ¬ i < (l.length : Int) → step again (mk i s) = k s) (s : S) (hs : I 0 s) : zx step zO (mk 0 s) = y9l g k l 0 s := by
 have key : ∀ (n : Nat) (i : Int) (s : S), 0 ≤ i → i ≤ l.length → I i.toNat s → l.length - i.toNat < n → zx step n (mk i s) = y9l g k (l.drop i.toNat) i s := by
  intro n
  induction n with
  | zero => intro i s _ _ _ hn; omega
  | succ n ih =>
   intro i s h0 h1 hI hn
   rw [zx]
   by_cases hi : i < (l.length : Int)
   ·obtain ⟨e, hI'⟩ := h (zx step n) i s h0 hi hI
    have e1 : (i + 1).toNat = i.toNat + 1 := by omega
    rw [e, JC da l i h0 hi, y9l]
    cases hg : g i s (l.getD i.toNat da) with
    | error r => rfl
    | ok s' => exact ih (i + 1) s' (by omega) (by omega) (by rw [e1]; exact hI' s' hg) (by omega)
   ·rw [hd _ i s hi, List.drop_of_length_le (by omega)]
    rfl
 have := key zO 0 s (by omega) (by omega) hs (by rw [y1q]; simp; omega)
 simpa using this
def Zn {A : Type} (p : A → Bool) : List A → Int → Int
 | [], _ => -1
 | a :: l, i => if p a then i else Zn p l (i + 1)
theorem y9m {A R : Type} (p : A → Bool) (hit : Int → Option R) (miss : Option R) : ∀ (l : List A) (i : Int), 0 ≤ i → y9l (fun i (_ : Unit) a => if p a then .error (hit i) else .ok ()) (fun _ => miss) l i () = if Zn p l i < 0 then miss else hit (Zn p l i)
 | [], i, _ => by simp [y9l, Zn]
 | a :: l, i, h => by
  rw [y9l, Zn]
  by_cases hp : p a = true
  ·rw [if_pos hp, if_pos hp, if_neg (by omega)]
  ·rw [if_neg hp, if_neg hp]
   exact y9m p hit miss l (i + 1) (by omega)
theorem YQ {T A R : Type} {step : (T → Option R) → T → Option R} (mk : Int → T) (p : A → Bool) (hit : Int → Option R) (miss : Option R) (da : A) (l : List A) (hl : l.length ≤ 1099511627776)
  (h : ∀ again i, 0 ≤ i → i < (l.length : Int) → step again (mk i) = if p (l.getD i.toNat da) then hit i else again (mk (i + 1)))
  (hd : ∀ again i, ¬ i < (l.length : Int) → step again (mk i) = miss) : zx step zO (mk 0) = if Zn p l 0 < 0 then miss else hit (Zn p l 0) := by
 rw [← y9m p hit miss l 0 (Int.le_refl _)]
 refine y4J (fun i (_ : Unit) => mk i) _ _ da l hl (fun _ _ => True) (fun again i s h0 h1 _ => ⟨?_, fun _ _ => trivial⟩) (fun again i s hi => hd again i hi) () trivial
 rw [h again i h0 h1]
 cases p (l.getD i.toNat da) <;> rfl
theorem K9 {A : Type} (p : A → Bool) (da : A) : ∀ (l : List A) (i : Int), 0 ≤ i → Zn p l i = -1 ∨ (i ≤ Zn p l i ∧ Zn p l i < i + l.length ∧ p (l.getD (Zn p l i - i).toNat da) = true)
 | [], i, _ => .inl rfl
 | a :: l, i, h => by
  rw [Zn]
  by_cases hp : p a = true
  ·rw [if_pos hp]
   refine .inr ⟨Int.le_refl _, by simp only [List.length_cons]; omega, ?_⟩
   simpa using hp
  ·rw [if_neg hp]
   rcases K9 p da l (i + 1) (by omega) with e | ⟨e1, e2, e3⟩
   ·exact .inl e
   ·refine .inr ⟨by omega, by simp only [List.length_cons]; omega, ?_⟩
    rw [show (Zn p l (i + 1) - i).toNat = (Zn p l (i + 1) - (i + 1)).toNat + 1 by omega, List.getD_cons_succ]
    exact e3
def zZ (l : List yd) (id : Int) : Int := Zn (fun a : yd => a.1 == id) l 0
theorem y0N (l : List yd) (id : Int) : zZ l id = -1 ∨ (0 ≤ zZ l id ∧ zZ l id < l.length ∧ (l.getD (zZ l id).toNat Y0).1 = id) := by
 rcases K9 (fun a : yd => a.1 == id) Y0 l 0 (Int.le_refl _) with h | ⟨h1, h2, h3⟩
 ·exact .inl h
 ·refine .inr ⟨h1, by simpa [zZ] using h2, ?_⟩
  have := eq_of_beq h3
  simpa [zZ] using this
theorem Zo (l : List yd) (id : Int) (hl : l.length ≤ 1073741824) : zG (l, id) = some (zZ l id) := by
 unfold zG y16
 refine (YQ (step := wg _ _) (fun i => (l, id, i)) (fun a : yd => a.1 == id) (fun x => some x) (some (-1)) Y0 l (by omega) ?_ ?_).trans ?_
 ·intro again i h0 h1
  have hw : Go.IntKind.wrap .i64 (i + 1) = i + 1 := w64 (by omega) (by omega)
  unfold wg
  simp only [Bool.cond_eq_ite, decide_eq_true_eq, h0, h1, if_true, hw]
  rfl
 ·intro again i hi
  unfold wg
  simp only [Bool.cond_eq_ite, decide_eq_true_eq, if_neg hi]
 ·rcases y0N l id with h | ⟨h1, h2, h3⟩ <;> unfold zZ at *
  ·rw [h]
   rfl
  ·rw [if_neg (by omega)]
theorem kp (l : List yd) (id : Int) (hl : l.length ≤ 1073741824) : YB (l, id) = some (zZ l id) := by
 have key : yZ (l, id) = some (zZ l id, id) := by
  unfold yZ Yp
  refine (YQ (step := yT _ _) (fun i => (l, (l.length : Int), i, id)) (fun a : yd => a.1 == id) (fun x => some (x, id)) (some (-1, id)) Y0 l (by omega) ?_ ?_).trans ?_
  ·intro again i h0 h1
   have hw : Go.IntKind.wrap .i64 (i + 1) = i + 1 := w64 (by omega) (by omega)
   unfold yT Kl
   simp only [Bool.cond_eq_ite, decide_eq_true_eq, h0, h1, if_true, hw, Option.bind_some]
   rfl
  ·intro again i hi
   unfold yT
   simp only [Bool.cond_eq_ite, decide_eq_true_eq, if_neg hi]
  ·rcases y0N l id with h | ⟨h1, h2, h3⟩ <;> unfold zZ at *
   ·rw [h]
    rfl
   ·rw [if_neg (by omega)]
 unfold YB
 rw [key]
 rfl
def yms (l : List Int) (v : Int) : Bool := decide (0 ≤ Zn (fun a : Int => a == v) l 0)
theorem ybi (l : List Int) (v : Int) (hl : l.length ≤ 1073741824) : Kx (l, v) = some (yms l v) := by
 unfold Kx y18
 refine (YQ (step := wl _ _) (fun i => (l, v, i)) (fun a : Int => a == v) (fun _ => some true) (some false) y5j l (by omega) ?_ ?_).trans ?_
 ·intro again i h0 h1
  have hw : Go.IntKind.wrap .i64 (i + 1) = i + 1 := w64 (by omega) (by omega)
  unfold wl
  simp only [Bool.cond_eq_ite, decide_eq_true_eq, h0, h1, if_true, hw]
  rfl
 ·intro again i hi
  unfold wl
  simp only [Bool.cond_eq_ite, decide_eq_true_eq, if_neg hi]
 ·unfold yms
  by_cases h : Zn (fun a : Int => a == v) l 0 < 0
  ·rw [if_pos h, decide_eq_false (by omega)]
  ·rw [if_neg h, decide_eq_true (by omega)]
theorem ybj (l : List Int) (v : Int) (hl : l.length ≤ 1073741824) : Yf (l, v) = some (yms l v) := by
 have key : Zh (l, v) = some (Zn (fun a : Int => a == v) l 0) := by
  unfold Zh KX
  refine (YQ (step := Yq _ _) (fun i => (l, v, (l.length : Int), i)) (fun a : Int => a == v) (fun x => some x) (some (-1)) y5j l (by omega) ?_ ?_).trans ?_
  ·intro again i h0 h1
   have hw : Go.IntKind.wrap .i64 (i + 1) = i + 1 := w64 (by omega) (by omega)
   unfold Yq
   have e : (v == (zl l i)) = ((zl l i) == v) := Bool.beq_comm
   simp only [Bool.cond_eq_ite, decide_eq_true_eq, h0, h1, if_true, hw, e]
   rfl
  ·intro again i hi
   unfold Yq
   simp only [Bool.cond_eq_ite, decide_eq_true_eq, if_neg hi]
  ·rcases K9 (fun a : Int => a == v) y5j l 0 (Int.le_refl _) with h | ⟨h1, h2, h3⟩
   ·rw [h]
    rfl
   ·rw [if_neg (by omega)]
 unfold Yf
 rw [key]
 rfl
def y0X (l : List yd) : Nat → Int → List Int
 | 0, _ => []
 | n + 1, at_ => if at_ < 0 then [] else (l.getD at_.toNat Y0).1 :: y0X l n (zZ l (l.getD at_.toNat Y0).2)
def y1c (l : List yd) (id : Int) : List Int := y0X l (l.length + 1) (zZ l id)
theorem y9n (l : List yd) (n : Nat) (i : Int) (h : 0 ≤ i) : y0X l (n + 1) i = (l.getD i.toNat Y0).1 :: y0X l n (zZ l (l.getD i.toNat Y0).2) := by rw [y0X, if_neg (by omega)]
theorem yf6 (l : List yd) (n : Nat) : y0X l n (-1) = [] := by cases n <;> simp [y0X]
theorem y9o (l : List yd) : ∀ (n : Nat) (i : Int), (y0X l n i).length ≤ n
 | 0, _ => by simp [y0X]
 | n + 1, i => by
  rw [y0X]
  split
  ·simp
  ·have := y9o l n (zZ l (l.getD i.toNat Y0).2)
   simp only [List.length_cons]
   omega
theorem y1d (l : List yd) (id : Int) (hl : l.length ≤ 1048576) : JQ (l, id) = some (y1c l id) := by
 unfold JQ QW y1c
 rw [Zo l id (by omega), Option.bind_some]
 have key := Ys (step := Wr (fun x4 => some x4)) (fun t : Wq => l.length + 1 - t.2.2.length) (fun t => t.1 = l ∧ t.2.2.length ≤ l.length + 1 ∧ ∃ id, t.2.1 = zZ l id) (fun t => some (t.2.2 ++ y0X l (l.length + 1 - t.2.2.length) t.2.1)) ?_ (l, zZ l id, []) ⟨rfl, by simp, id, rfl⟩ (by simp; omega)
 ·simpa using key
 ·rintro again ⟨l', at_, o⟩ ⟨hll, ho, id', hid⟩ hag
  simp only at hll ho hid
  subst hll hid
  unfold Wr
  simp only [Bool.cond_eq_ite, decide_eq_true_eq, List.length_cons, List.length_nil, Nat.zero_add]
  rcases y0N l' id' with h | ⟨h1, h2, h3⟩
  ·rw [h]
   have : y0X l' (l'.length + 1 - o.length) (-1) = [] := by
    cases l'.length + 1 - o.length <;> simp [y0X]
   simp [this]
  ·simp only [ge_iff_le, h1, if_true, h2]
   by_cases hlen : (o.length : Int) ≤ (l'.length : Int)
   ·have e := Zo l' (yC l' (zZ l' id')).2 (by omega)
    rw [show l'.length + 1 - o.length = (l'.length - o.length) + 1 by omega, y9n _ _ _ h1]
    simp only [hlen, decide_true, Option.bind_some, if_true, e]
    have hl1 : (o ++ [(yC l' (zZ l' id')).1]).length = o.length + 1 := by simp
    rw [if_pos (by omega), hag (l', zZ l' (yC l' (zZ l' id')).2, o ++ [(yC l' (zZ l' id')).1]) ⟨rfl, by show (o ++ [(yC l' (zZ l' id')).1]).length ≤ _; omega, _, rfl⟩ (by show l'.length + 1 - (o ++ [(yC l' (zZ l' id')).1]).length < l'.length + 1 - o.length; omega)]
    simp only [hl1]
    rw [show l'.length + 1 - (o.length + 1) = l'.length - o.length by omega, List.append_assoc]
    rfl
   ·rw [show l'.length + 1 - o.length = 0 by omega]
    simp [hlen, y0X]
theorem y1e (l : List yd) (id : Int) (hl : l.length ≤ 1048576) : JV (l, id) = some (y1c l id) := by
 unfold JV y0h y1c
 simp only
 rw [w64 (n := (l.length : Int) + 1) (by omega) (by omega)]
 have key := Ys (step := kb (fun x2 => some x2)) (fun t : ka => l.length + 1 - t.2.2.2.2.length) (fun t => t.1 = l ∧ t.2.2.1 = (l.length : Int) + 1 ∧ t.2.2.2.1 = (t.2.2.2.2.length : Int) ∧ t.2.2.2.2.length ≤ l.length + 1) (fun t => some (t.2.2.2.2 ++ y0X l (l.length + 1 - t.2.2.2.2.length) (zZ l t.2.1))) ?_ (l, id, (l.length : Int) + 1, 0, []) ⟨rfl, rfl, by simp, by simp⟩ (by simp; omega)
 ·simpa using key
 ·rintro again ⟨l', id', n, i, o⟩ ⟨hll, hn, hi, ho⟩ hag
  simp only at hll ho hn hi
  subst hll hn hi
  unfold kb
  have e := kp l' id' (by omega)
  simp only [Bool.cond_eq_ite, decide_eq_true_eq, e, Option.bind_some, List.length_cons, List.length_nil, Nat.zero_add]
  by_cases hlen : (o.length : Int) < (l'.length : Int) + 1
  ·rw [if_pos hlen, show l'.length + 1 - o.length = (l'.length - o.length) + 1 by omega]
   rcases y0N l' id' with h | ⟨h1, h2, h3⟩
   ·rw [h, yf6]
    simp
   ·have hw : Go.IntKind.wrap .i64 ((o.length : Int) + 1) = (o.length : Int) + 1 := w64 (by omega) (by omega)
    have hl1 : (o ++ [id']).length = o.length + 1 := by simp
    rw [y9n _ _ _ h1, if_neg (by omega), if_pos (by omega), if_pos h1, if_pos h2, hw, hag (l', (yC l' (zZ l' id')).2, (l'.length : Int) + 1, (o.length : Int) + 1, o ++ [id']) ⟨rfl, rfl, by show _ = ((o ++ [id']).length : Int); rw [hl1]; rfl, by show (o ++ [id']).length ≤ _; omega⟩ (by show l'.length + 1 - (o ++ [id']).length < l'.length + 1 - o.length; omega), h3]
    simp only [hl1]
    rw [show l'.length + 1 - (o.length + 1) = l'.length - o.length by omega, List.append_assoc]
    rfl
  ·rw [if_neg hlen, show l'.length + 1 - o.length = 0 by omega]
   simp [y0X]
end Go.Proofs.YthgdjjdigalckaaGreat.Pl
namespace Go.Proofs.YthgdjjdigalckaaGreat.Pl
open Go.Proofs.YthgdjjdigalckaaGreat.R Go.Proofs.YthgdjjdigalckaaGreat.XC
theorem Zy (x a b : Int) : yD (x, a, b) = some (inR x a b) := by
 unfold yD inR
 by_cases h : x ≥ a <;> simp [h]
theorem jI (x a b : Int) : yM (x, a, b) = some (inR x a b) := by
 unfold yM inR
 by_cases h : x ≥ a <;> simp [h]
theorem bi (x y : Int) : ((x == y) = true) = (x = y) := by simp
end Go.Proofs.YthgdjjdigalckaaGreat.Pl
namespace Go.Proofs.YthgdjjdigalckaaGreat.Pl
open Go.Proofs.YthgdjjdigalckaaGreat.R Go.Proofs.YthgdjjdigalckaaGreat.XC
def Yl {A : Type} (p : Int → A → Bool) : List A → Int → Bool
 | [], _ => false
 | a :: l, i => p i a || Yl p l (i + 1)
theorem ybk {A : Type} (p q : Int → A → Bool) : ∀ (l : List A) (i : Int), Yl (fun i a => p i a || q i a) l i = (Yl p l i || Yl q l i)
 | [], _ => rfl
 | a :: l, i => by
  rw [Yl, Yl, Yl, ybk p q l (i + 1)]
  cases p i a <;> cases q i a <;> cases Yl p l (i + 1) <;> rfl
theorem y67 {A : Type} {p q : Int → A → Bool} : ∀ (l : List A) (i : Int), (∀ j a, i ≤ j → p j a = q j a) → Yl p l i = Yl q l i
 | [], _, _ => rfl
 | a :: l, i, h => by rw [Yl, Yl, h i a (Int.le_refl _), y67 l (i + 1) (fun j a hj => h j a (by omega))]
theorem y43 {A S R : Type} (p : Int → A → Bool) (f : S → A → S) (r : Option R) (k : S → Option R) : ∀ (l : List A) (i : Int) (s : S), y9l (fun i s a => if p i a = true then .error r else .ok (f s a)) k l i s = if Yl p l i = true then r else k (l.foldl f s)
 | [], _, _ => by simp [y9l, Yl]
 | a :: l, i, s => by
  rw [y9l, Yl]
  by_cases h : p i a = true
  ·simp [h]
  ·have hf : p i a = false := by simpa using h
   simp only [hf, Bool.false_eq_true, if_false, Bool.false_or, List.foldl_cons]
   exact y43 p f r k l (i + 1) (f s a)
theorem y4K {T A S R : Type} {step : (T → Option R) → T → Option R} (mk : Int → S → T) (g : Int → S → A → Except (Option R) S) (k : S → Option R) (da : A) (l : List A) (hl : l.length ≤ 1099511627776) (I : Nat → S → Prop)
  (h : ∀ again i s, 0 ≤ i → i < (l.length : Int) → I i.toNat s → (step again (mk i s) = match g i s (l.getD i.toNat da) with
   | .error r => r
   | .ok s' => again (mk (i + 1) s')) ∧ ∀ s', g i s (l.getD i.toNat da) = .ok s' → I (i.toNat + 1) s')
  (hd : ∀ again i s, ¬ i < (l.length : Int) → step again (mk i s) = k s) (i0 : Int) (h00 : 0 ≤ i0) (s : S) (hs : I i0.toNat s) : zx step zO (mk i0 s) = y9l g k (l.drop i0.toNat) i0 s := by
 have key : ∀ (n : Nat) (i : Int) (s : S), 0 ≤ i → I i.toNat s → l.length - i.toNat < n → zx step n (mk i s) = y9l g k (l.drop i.toNat) i s := by
  intro n
  induction n with
  | zero => intro i s _ _ hn; omega
  | succ n ih =>
   intro i s h0 hI hn
   rw [zx]
   by_cases hi : i < (l.length : Int)
   ·obtain ⟨e, hI'⟩ := h (zx step n) i s h0 hi hI
    have e1 : (i + 1).toNat = i.toNat + 1 := by omega
    rw [e, JC da l i h0 hi, y9l]
    cases hg : g i s (l.getD i.toNat da) with
    | error r => rfl
    | ok s' => exact ih (i + 1) s' (by omega) (by rw [e1]; exact hI' s' hg) (by omega)
   ·rw [hd _ i s hi, List.drop_of_length_le (by omega)]
    rfl
 exact key zO i0 s h00 hs (by rw [y1q]; omega)
theorem y44 {T A S R : Type} {step : (T → Option R) → T → Option R} (mk : Int → S → T) (p : Int → A → Bool) (f : S → A → S) (r : Option R) (k : S → Option R) (da : A) (l : List A) (hl : l.length ≤ 1099511627776)
  (h : ∀ again i s, 0 ≤ i → i < (l.length : Int) → step again (mk i s) = if p i (l.getD i.toNat da) = true then r else again (mk (i + 1) (f s (l.getD i.toNat da))))
  (hd : ∀ again i s, ¬ i < (l.length : Int) → step again (mk i s) = k s) (s : S) : zx step zO (mk 0 s) = if Yl p l 0 = true then r else k (l.foldl f s) := by
 rw [← y43 p f r k l 0 s]
 have := y4K (step := step) mk (fun i s a => if p i a = true then .error r else .ok (f s a)) k da l hl (fun _ _ => True) (fun again i s h0 h1 _ => ⟨?_, fun _ _ => trivial⟩) hd 0 (Int.le_refl _) s trivial
 ·simpa using this
 ·rw [h again i s h0 h1]
  by_cases hp : p i (l.getD i.toNat da) = true
  ·rw [if_pos hp, if_pos hp]
  ·rw [if_neg hp, if_neg hp]
theorem zD {T A R : Type} {step : (T → Option R) → T → Option R} (mk : Int → T) (p : Int → A → Bool) (r k : Option R) (da : A) (l : List A) (hl : l.length ≤ 1099511627776)
  (h : ∀ again i, 0 ≤ i → i < (l.length : Int) → step again (mk i) = if p i (l.getD i.toNat da) = true then r else again (mk (i + 1)))
  (hd : ∀ again i, ¬ i < (l.length : Int) → step again (mk i) = k) : zx step zO (mk 0) = if Yl p l 0 = true then r else k :=
 y44 (fun i (_ : Unit) => mk i) p (fun _ _ => ()) r (fun _ => k) da l hl (fun again i _ h0 h1 => h again i h0 h1) (fun again i _ hi => hd again i hi) ()
end Go.Proofs.YthgdjjdigalckaaGreat.Pl
namespace Go.Proofs.YthgdjjdigalckaaGreat.Pl
open Go.Proofs.YthgdjjdigalckaaGreat.R Go.Proofs.YthgdjjdigalckaaGreat.XC
def y23 (blk : Int) (s : List y9) (a : y9) : List y9 := if a.1 == blk then s ++ [a] else s
def VA (ks : List y9) (blk : Int) : List y9 := ks.foldl (y23 blk) []
theorem y2B (blk : Int) (s : List y9) (a : y9) : (y23 blk s a).length ≤ s.length + 1 := by
 unfold y23
 split <;> simp
theorem y4L (blk : Int) : ∀ (l s : List y9), (l.foldl (y23 blk) s).length ≤ s.length + l.length
 | [], s => by simp
 | c :: l, s => by
  have h := y4L blk l (y23 blk s c)
  have h2 := y2B blk s c
  simp only [List.foldl_cons, List.length_cons]
  omega
theorem y9p : ∀ (t : List y8) (s : List y9), ((t.foldl KS s).length : Int) ≤ s.length + W4 Qw t
 | [], s => by simp [W4]
 | n :: t, s => by
  have h := y9p t (KS s n)
  have h1 := V9 n
  have h2 := y22 n
  have h3 : (KS s n).length = s.length + (z4 n).length := List.length_append
  simp only [List.foldl_cons, Y1]
  omega
theorem y9q (t : List y8) : ((zb t).length : Int) ≤ W4 Qw t := by
 have := y9p t []
 simpa [zb] using this
structure TOk (t : List y8) : Prop where
 len : t.length ≤ 1048576
 nodes : ∀ n ∈ t, List.length n ≤ 1073741824
 sum : W4 Qw t ≤ 1048576
theorem TOk.keys {t : List y8} (h : TOk t) : (zb t).length ≤ 1048576 := by
 have h1 := y9q t
 have h2 := h.sum
 omega
theorem y5m (q : List Int) (t : List y8) (blk : Int) (ht : TOk t) : Ws (q, t, blk) = some (VA (zb t) blk) := by
 unfold Ws QX
 have hk := ht.keys
 have e : yu (q, t) = some (zb t) := zz q t (by have := ht.len; omega) ht.nodes ht.sum
 simp only [e, Option.bind_some]
 generalize zb t = ks at hk
 refine zL (step := Jj _) (fun (i : Int) (s : List y9) => (blk, i, s, ks)) (fun s => some s) z6 (y23 blk) ks (by omega) (fun i s => s.length ≤ i) ?_ ?_ [] (by simp)
 ·intro again i s h0 h1 hI
  have hw : Go.IntKind.wrap .i64 (i + 1) = i + 1 := w64 (by omega) (by omega)
  have hs := y2B blk s (ks.getD i.toNat z6)
  refine ⟨?_, by omega⟩
  have c1 : (s.length + 1) * 40 < 140737488355328 := by omega
  clear hs
  unfold Jj y23
  obtain ⟨⟨x1, x2, x3, x4, x5⟩, hx⟩ : ∃ x, y0 ks i = x := ⟨_, rfl⟩
  have hx' : ks.getD i.toNat z6 = (x1, x2, x3, x4, x5) := hx
  rw [hx']
  simp only [Bool.cond_eq_ite, decide_eq_true_eq, h0, h1, if_true, hw, hx, List.length_cons, List.length_nil, Nat.zero_add, c1]
  by_cases h3 : (x1 == blk) = true
  ·rw [if_pos h3, if_pos h3]
  ·rw [if_neg h3, if_neg h3]
 ·intro again i s hi
  unfold Jj
  simp only [Bool.cond_eq_ite, decide_eq_true_eq, if_neg hi]
theorem y5n (q : List Int) (t : List y8) (blk : Int) (ht : TOk t) : k9 (q, t, blk) = some (VA (zb t) blk) := by
 unfold k9 y0f
 have hk := ht.keys
 have e : yS (q, t) = some (zb t) := Z1 q t (by have := ht.len; omega) ht.nodes ht.sum
 simp only [e, Option.bind_some]
 generalize zb t = ks at hk
 refine zL (step := Jx _) (fun (i : Int) (s : List y9) => (blk, (ks.length : Int), i, s, ks)) (fun s => some s) z6 (y23 blk) ks (by omega) (fun i s => s.length ≤ i) ?_ ?_ [] (by simp)
 ·intro again i s h0 h1 hI
  have hw : Go.IntKind.wrap .i64 (i + 1) = i + 1 := w64 (by omega) (by omega)
  have hs := y2B blk s (ks.getD i.toNat z6)
  refine ⟨?_, by omega⟩
  have c1 : (s.length + 1) * 40 < 140737488355328 := by omega
  clear hs
  unfold Jx y23
  obtain ⟨⟨x1, x2, x3, x4, x5⟩, hx⟩ : ∃ x, y0 ks i = x := ⟨_, rfl⟩
  have hx' : ks.getD i.toNat z6 = (x1, x2, x3, x4, x5) := hx
  rw [hx']
  simp only [Bool.cond_eq_ite, decide_eq_true_eq, h0, h1, if_true, hw, hx, List.length_cons, List.length_nil, Nat.zero_add, c1]
  by_cases h3 : (x1 == blk) = true
  ·rw [if_pos h3, if_pos h3]
  ·rw [if_neg h3, if_neg h3]
 ·intro again i s hi
  unfold Jx
  simp only [Bool.cond_eq_ite, decide_eq_true_eq, if_neg hi]
def y1v (path : List Int) (s : Bool × y9) (a : y9) : Bool × y9 := if yms path a.2.1 = true ∧ (s.1 = false ∨ s.2.2.1 < a.2.1) then (true, a) else s
def y0o (ks : List y9) (path : List Int) : Bool × y9 := ks.foldl (y1v path) (false, (0, 0, 0, 0, 0))
def ans (r : Bool × y9) : Int × Int × Int × Int × Int × Bool := (r.2.1, r.2.2.1, r.2.2.2.1, r.2.2.2.2.1, r.2.2.2.2.2, r.1)
theorem y30 (q : List Int) (t : List y8) (blk : Int) (path : List Int) (ht : TOk t) (hp : path.length ≤ 1073741824) : jm (q, t, blk, path) = some (ans (y0o (VA (zb t) blk) path)) := by
 unfold jm QY
 have hk : (VA (zb t) blk).length ≤ 1048576 := by
  have h1 := y4L blk (zb t) []
  have h2 := ht.keys
  unfold VA
  simp only [List.length_nil] at h1
  omega
 simp only [y5m q t blk ht, Option.bind_some]
 generalize VA (zb t) blk = ks at hk
 refine (zL (step := Jk _) (fun (i : Int) (s : Bool × y9) => (path, s.1, i, 0, 0, 0, 0, 0, s.2.1, s.2.2.1, s.2.2.2.1, s.2.2.2.2.1, s.2.2.2.2.2, ks)) (fun s => some (ans s)) z6 (y1v path) ks (by omega) (fun _ _ => True) ?_ ?_ (false, (0, 0, 0, 0, 0)) trivial)
 ·rintro again i ⟨f, b1, b2, b3, b4, b5⟩ h0 h1 _
  have hw : Go.IntKind.wrap .i64 (i + 1) = i + 1 := w64 (by omega) (by omega)
  refine ⟨?_, trivial⟩
  unfold Jk y1v
  obtain ⟨⟨x1, x2, x3, x4, x5⟩, hx⟩ : ∃ x, y0 ks i = x := ⟨_, rfl⟩
  have hx' : ks.getD i.toNat z6 = (x1, x2, x3, x4, x5) := hx
  rw [hx']
  have e := ybi path x2 hp
  simp only [Bool.cond_eq_ite, decide_eq_true_eq, h0, h1, if_true, hw, hx, e, Option.bind_some]
  cases yms path x2 <;> cases f <;> by_cases hb : b2 < x2 <;> simp [hb]
 ·rintro again i ⟨f, b1, b2, b3, b4, b5⟩ hi
  unfold Jk
  simp only [Bool.cond_eq_ite, decide_eq_true_eq, if_neg hi]
  rfl
theorem y1f (q : List Int) (t : List y8) (blk : Int) (path : List Int) (ht : TOk t) (hp : path.length ≤ 1073741824) : jo (q, t, blk, path) = some (ans (y0o (VA (zb t) blk) path)) := by
 unfold jo y0g
 have hk : (VA (zb t) blk).length ≤ 1048576 := by
  have h1 := y4L blk (zb t) []
  have h2 := ht.keys
  unfold VA
  simp only [List.length_nil] at h1
  omega
 simp only [y5n q t blk ht, Option.bind_some]
 generalize VA (zb t) blk = ks at hk
 refine (zL (step := Jy _) (fun (i : Int) (s : Bool × y9) => (path, s.1, (ks.length : Int), i, 0, 0, 0, 0, 0, s.2.1, s.2.2.1, s.2.2.2.1, s.2.2.2.2.1, s.2.2.2.2.2, ks)) (fun s => some (ans s)) z6 (y1v path) ks (by omega) (fun _ _ => True) ?_ ?_ (false, (0, 0, 0, 0, 0)) trivial)
 ·rintro again i ⟨f, b1, b2, b3, b4, b5⟩ h0 h1 _
  have hw : Go.IntKind.wrap .i64 (i + 1) = i + 1 := w64 (by omega) (by omega)
  refine ⟨?_, trivial⟩
  unfold Jy y1v
  obtain ⟨⟨x1, x2, x3, x4, x5⟩, hx⟩ : ∃ x, y0 ks i = x := ⟨_, rfl⟩
  have hx' : ks.getD i.toNat z6 = (x1, x2, x3, x4, x5) := hx
  rw [hx']
  have e := ybj path x2 hp
  simp only [Bool.cond_eq_ite, decide_eq_true_eq, h0, h1, if_true, hw, hx, e, Option.bind_some]
  cases yms path x2 <;> cases f <;> by_cases hb : b2 < x2 <;> simp [hb]
 ·rintro again i ⟨f, b1, b2, b3, b4, b5⟩ hi
  unfold Jy
  simp only [Bool.cond_eq_ite, decide_eq_true_eq, if_neg hi]
  rfl
def ydi (t : List y8) (l : List yd) (blk id : Int) : Bool × y9 := y0o (VA (zb t) blk) (y1c l id)
theorem y0O (l : List yd) (id : Int) (hl : l.length ≤ 1048576) : (y1c l id).length ≤ 1073741824 := by
 have := y9o l (l.length + 1) (zZ l id)
 unfold y1c
 omega
theorem y9r (q : List Int) (t : List y8) (l : List yd) (blk id : Int) (ht : TOk t) (hl : l.length ≤ 1048576) : vN (q, t, l, blk, id) = some (ans (ydi t l blk id)) := by
 unfold vN
 simp only [y1d l id hl, y30 q t blk _ ht (y0O l id hl), Option.bind_some]
 rfl
theorem y9s (q : List Int) (t : List y8) (l : List yd) (blk id : Int) (ht : TOk t) (hl : l.length ≤ 1048576) : V3 (q, t, l, blk, id) = some (ans (ydi t l blk id)) := by
 unfold V3
 simp only [y1e l id hl, y1f q t blk _ ht (y0O l id hl), Option.bind_some]
 rfl
def ybl (t : List y8) (l : List yd) (k : y9) (id : Int) : Bool := (ydi t l k.1 id).1 && ((ydi t l k.1 id).2.2.1 == k.2.1)
theorem y9t (q : List Int) (t : List y8) (l : List yd) (k1 k2 k3 k4 k5 id : Int) (ht : TOk t) (hl : l.length ≤ 1048576) : vO (q, t, l, k1, k2, k3, k4, k5, id) = some (ybl t l (k1, k2, k3, k4, k5) id) := by
 unfold vO ybl
 simp only [y9r q t l k1 id ht hl, Option.bind_some, ans]
 cases (ydi t l k1 id).1 <;> rfl
theorem y9u (q : List Int) (t : List y8) (l : List yd) (k1 k2 k3 k4 k5 id : Int) (ht : TOk t) (hl : l.length ≤ 1048576) : V4 (q, t, l, k1, k2, k3, k4, k5, id) = some (ybl t l (k1, k2, k3, k4, k5) id) := by
 unfold V4 ybl
 simp only [y9s q t l k1 id ht hl, Option.bind_some, ans]
 cases (ydi t l k1 id).1 <;> rfl
def y1w (t : List y8) (l : List yd) (k : y9) (v : yl) : Bool := decide (v.2.2.1 > k.1) && ybl t l k v.2.1
def y0p (t : List y8) (l : List yd) (vs : List yl) (k : y9) : Bool := decide (0 ≤ Zn (y1w t l k) vs 0)
theorem Ka (q : List Int) (t : List y8) (l : List yd) (cs : List yb) (vs : List yl) (z k1 k2 k3 k4 k5 : Int) (ht : TOk t) (hl : l.length ≤ 1048576) (hv : vs.length ≤ 1048576) : Yi (q, t, l, cs, vs, z, k1, k2, k3, k4, k5) = some (y0p t l vs (k1, k2, k3, k4, k5)) := by
 unfold Yi Vt
 refine (YQ (step := Z9 _ _) (fun i => (i, q, t, l, cs, vs, z, k1, k2, k3, k4, k5)) (y1w t l (k1, k2, k3, k4, k5)) (fun _ => some true) (some false) w8 vs (by omega) ?_ ?_).trans ?_
 ·intro again i h0 h1
  have hw : Go.IntKind.wrap .i64 (i + 1) = i + 1 := w64 (by omega) (by omega)
  unfold Z9 y1w
  obtain ⟨⟨x1, x2, x3, x4⟩, hx⟩ : ∃ x, yq vs i = x := ⟨_, rfl⟩
  have hx' : vs.getD i.toNat w8 = (x1, x2, x3, x4) := hx
  rw [hx']
  have e := y9t q t l k1 k2 k3 k4 k5 x2 ht hl
  simp only [Bool.cond_eq_ite, decide_eq_true_eq, h0, h1, if_true, hw, hx, e, Option.bind_some]
  by_cases hb : x3 > k1 <;> cases ybl t l (k1, k2, k3, k4, k5) x2 <;> simp [hb]
 ·intro again i hi
  unfold Z9
  simp only [Bool.cond_eq_ite, decide_eq_true_eq, if_neg hi]
 ·unfold y0p
  by_cases h : Zn (y1w t l (k1, k2, k3, k4, k5)) vs 0 < 0
  ·rw [if_pos h, decide_eq_false (by omega)]
  ·rw [if_neg h, decide_eq_true (by omega)]
theorem Kb (q : List Int) (t : List y8) (l : List yd) (cs : List yb) (vs : List yl) (z k1 k2 k3 k4 k5 : Int) (ht : TOk t) (hl : l.length ≤ 1048576) (hv : vs.length ≤ 1048576) : Yj (q, t, l, cs, vs, z, k1, k2, k3, k4, k5) = some (y0p t l vs (k1, k2, k3, k4, k5)) := by
 unfold Yj Vx
 refine (YQ (step := Zi _ _) (fun i => (vs, (vs.length : Int), i, q, t, l, cs, vs, z, k1, k2, k3, k4, k5)) (y1w t l (k1, k2, k3, k4, k5)) (fun _ => some true) (some false) w8 vs (by omega) ?_ ?_).trans ?_
 ·intro again i h0 h1
  have hw : Go.IntKind.wrap .i64 (i + 1) = i + 1 := w64 (by omega) (by omega)
  unfold Zi y1w
  obtain ⟨⟨x1, x2, x3, x4⟩, hx⟩ : ∃ x, yq vs i = x := ⟨_, rfl⟩
  have hx' : vs.getD i.toNat w8 = (x1, x2, x3, x4) := hx
  rw [hx']
  have e := y9u q t l k1 k2 k3 k4 k5 x2 ht hl
  simp only [Bool.cond_eq_ite, decide_eq_true_eq, h0, h1, if_true, hw, hx, e, Option.bind_some]
  by_cases hb : x3 > k1 <;> cases ybl t l (k1, k2, k3, k4, k5) x2 <;> simp [hb]
 ·intro again i hi
  unfold Zi
  simp only [Bool.cond_eq_ite, decide_eq_true_eq, if_neg hi]
 ·unfold y0p
  by_cases h : Zn (y1w t l (k1, k2, k3, k4, k5)) vs 0 < 0
  ·rw [if_pos h, decide_eq_false (by omega)]
  ·rw [if_neg h, decide_eq_true (by omega)]
def y4M (t : List y8) (l : List yd) (vs : List yl) (n : Int) (k : y9) : Int := if k.2.2.1 = 1 ∧ y0p t l vs k = true then Go.IntKind.wrap .i64 (n + 1) else n
def y45 (t : List y8) (l : List yd) (vs : List yl) : Int := (zb t).foldl (y4M t l vs) 0
theorem Ql (q : List Int) (t : List y8) (l : List yd) (cs : List yb) (vs : List yl) (z : Int) (ht : TOk t) (hl : l.length ≤ 1048576) (hv : vs.length ≤ 1048576) : ja (q, t, l, cs, vs, z) = some (y45 t l vs) := by
 unfold ja qD
 have hk := ht.keys
 have e : yu (q, t) = some (zb t) := zz q t (by have := ht.len; omega) ht.nodes ht.sum
 simp only [e, Option.bind_some]
 unfold y45
 generalize zb t = ks at hk
 refine zL (step := j9 _) (fun (i : Int) (s : Int) => (s, i, q, t, l, cs, vs, z, ks)) (fun s => some s) z6 (y4M t l vs) ks (by omega) (fun _ _ => True) ?_ ?_ 0 trivial
 ·intro again i s h0 h1 _
  have hw : Go.IntKind.wrap .i64 (i + 1) = i + 1 := w64 (by omega) (by omega)
  refine ⟨?_, trivial⟩
  unfold j9 y4M
  obtain ⟨⟨x1, x2, x3, x4, x5⟩, hx⟩ : ∃ x, y0 ks i = x := ⟨_, rfl⟩
  have hx' : ks.getD i.toNat z6 = (x1, x2, x3, x4, x5) := hx
  rw [hx']
  have e := Ka q t l cs vs z x1 x2 x3 x4 x5 ht hl hv
  simp only [Bool.cond_eq_ite, decide_eq_true_eq, h0, h1, if_true, hw, hx, e, Option.bind_some]
  by_cases hb : x3 = 1 <;> cases y0p t l vs (x1, x2, x3, x4, x5) <;> simp [hb]
 ·intro again i s hi
  unfold j9
  simp only [Bool.cond_eq_ite, decide_eq_true_eq, if_neg hi]
theorem Qm (q : List Int) (t : List y8) (l : List yd) (cs : List yb) (vs : List yl) (z : Int) (ht : TOk t) (hl : l.length ≤ 1048576) (hv : vs.length ≤ 1048576) : j8 (q, t, l, cs, vs, z) = some (y45 t l vs) := by
 unfold j8 qC
 have hk := ht.keys
 have e : yS (q, t) = some (zb t) := Z1 q t (by have := ht.len; omega) ht.nodes ht.sum
 simp only [e, Option.bind_some]
 unfold y45
 generalize zb t = ks at hk
 refine zL (step := j7 _) (fun (i : Int) (s : Int) => (s, (ks.length : Int), i, q, t, l, cs, vs, z, ks)) (fun s => some s) z6 (y4M t l vs) ks (by omega) (fun _ _ => True) ?_ ?_ 0 trivial
 ·intro again i s h0 h1 _
  have hw : Go.IntKind.wrap .i64 (i + 1) = i + 1 := w64 (by omega) (by omega)
  refine ⟨?_, trivial⟩
  unfold j7 y4M
  obtain ⟨⟨x1, x2, x3, x4, x5⟩, hx⟩ : ∃ x, y0 ks i = x := ⟨_, rfl⟩
  have hx' : ks.getD i.toNat z6 = (x1, x2, x3, x4, x5) := hx
  rw [hx']
  have e := Kb q t l cs vs z x1 x2 x3 x4 x5 ht hl hv
  simp only [Bool.cond_eq_ite, decide_eq_true_eq, h0, h1, if_true, hw, hx, e, Option.bind_some]
  by_cases hb : x3 = 1 <;> cases y0p t l vs (x1, x2, x3, x4, x5) <;> simp [hb]
 ·intro again i s hi
  unfold j7
  simp only [Bool.cond_eq_ite, decide_eq_true_eq, if_neg hi]
end Go.Proofs.YthgdjjdigalckaaGreat.Pl
namespace Go.Proofs.YthgdjjdigalckaaGreat.Pl
open Go.Proofs.YthgdjjdigalckaaGreat.R Go.Proofs.YthgdjjdigalckaaGreat.XC
def w3 (k : y9) : Bool := inR k.1 0 15 && (inR k.2.1 1 60 && (inR k.2.2.1 0 2 && (if k.2.2.1 = 1 then inR k.2.2.2.1 0 23 && inR k.2.2.2.2 0 999 else (k.2.2.2.1 == 0) && (k.2.2.2.2 == 0))))
theorem y24 (a b c d e : Int) : wV (a, b, c, d, e) = some (w3 (a, b, c, d, e)) := by
 unfold wV w3
 simp only [Zy, Option.bind_some]
 by_cases hc : c = 1
 ·subst hc
  cases inR a 0 15 <;> cases inR b 1 60 <;> cases inR 1 0 2 <;> cases inR d 0 23 <;> rfl
 ·have hc' : (c == 1) = false := by simpa using hc
  rw [hc', if_neg hc]
  cases inR a 0 15 <;> cases inR b 1 60 <;> cases inR c 0 2 <;> cases (d == 0) <;> rfl
theorem y25 (a b c d e : Int) : W0 (a, b, c, d, e) = some (w3 (a, b, c, d, e)) := by
 unfold W0 w3
 simp only [jI, Option.bind_some]
 by_cases hc : c = 1
 ·subst hc
  cases inR a 0 15 <;> cases inR b 1 60 <;> cases inR 1 0 2 <;> cases inR d 0 23 <;> rfl
 ·have hc' : (c != 1) = true := by simpa using hc
  rw [hc', if_neg hc]
  cases inR a 0 15 <;> cases inR b 1 60 <;> cases inR c 0 2 <;> cases (d == 0) <;> rfl
def wO (l : List y9) (i : Int) (a : y9) : Bool := decide (0 < i) && !qV (l.getD (i - 1).toNat z6) a
def Qn (l : List y9) : Bool := !Yl (fun _ a => !w3 a) l 0 && (!Yl (wO l) l 0 && decide ((l.length : Int) ≤ 60))
theorem y8i (l : List y9) (hl : l.length ≤ 1073741824) : wc l = some (!Yl (wO l) l 0) := by
 unfold wc Q8
 have key := y4K (step := jr (fun x2 => some x2) (fun x3 => some true)) (fun i (_ : Unit) => (l, i)) (fun i (s : Unit) a => if (decide (0 < i) && !qV (l.getD (i - 1).toNat z6) a) = true ∨ i = 0 then .error (some false) else .ok s) (fun _ => some true) z6 l (by omega) (fun i _ => 1 ≤ i) ?_ ?_ 1 (by omega) () (by decide)
 ·rw [key]
  have h1 : Yl (wO l) l 0 = Yl (wO l) (l.drop 1) 1 := by
   cases l with
   | nil => rfl
   | cons a l => simp [Yl, wO]
  rw [h1]
  have h2 := y43 (fun i a => decide ((decide (0 < i) && !qV (l.getD (i - 1).toNat z6) a) = true ∨ i = 0)) (fun (s : Unit) _ => s) (some false) (fun _ => some true) (l.drop 1) 1 ()
  simp only [decide_eq_true_eq] at h2
  rw [show (1 : Int).toNat = 1 from rfl, h2]
  have h3 : Yl (fun i a => decide ((decide (0 < i) && !qV (l.getD (i - 1).toNat z6) a) = true ∨ i = 0)) (l.drop 1) 1 = Yl (wO l) (l.drop 1) 1 := y67 _ _ fun j a hj => by
   unfold wO
   have : ¬ j = 0 := by omega
   simp [this]
  rw [h3]
  cases Yl (wO l) (l.drop 1) 1 <;> rfl
 ·intro again i s h0 h1 hI
  have hi : 1 ≤ i := by
   have : (1 : Nat) ≤ i.toNat := hI
   omega
  have hw : Go.IntKind.wrap .i64 (i + 1) = i + 1 := w64 (by omega) (by omega)
  have hm : Go.IntKind.wrap .i64 (i - 1) = i - 1 := w64 (by omega) (by omega)
  refine ⟨?_, fun _ _ => by omega⟩
  unfold jr
  obtain ⟨⟨x1, x2, x3, x4, x5⟩, hx⟩ : ∃ x, y0 l i = x := ⟨_, rfl⟩
  have hx' : l.getD i.toNat z6 = (x1, x2, x3, x4, x5) := hx
  obtain ⟨⟨y1, y2, y3, y4, y5⟩, hy⟩ : ∃ y, y0 l (i - 1) = y := ⟨_, rfl⟩
  have hy' : l.getD (i - 1).toNat z6 = (y1, y2, y3, y4, y5) := hy
  rw [hx', hy']
  have h3 : 0 ≤ i - 1 := by omega
  have h4 : i - 1 < (l.length : Int) := by omega
  have h5 : 0 < i := by omega
  have h6 : ¬ i = 0 := by omega
  simp only [Bool.cond_eq_ite, decide_eq_true_eq, h0, h1, if_true, hw, hm, hx, hy, h3, h4, h5, h6, y0l, Option.bind_some, decide_true, Bool.true_and, or_false]
  cases qV (y1, y2, y3, y4, y5) (x1, x2, x3, x4, x5) <;> rfl
 ·intro again i s hi
  unfold jr
  simp only [Bool.cond_eq_ite, decide_eq_true_eq, if_neg hi]
theorem y8j (l : List y9) (hl : l.length ≤ 1073741824) : Kw l = some (Qn l) := by
 unfold Kw y15 Qn
 refine (zD (step := wd _ _) (fun i => (l, i)) (fun _ a => !w3 a) (some false) (some (!Yl (wO l) l 0 && decide ((l.length : Int) ≤ 60))) z6 l (by omega) ?_ ?_).trans ?_
 ·intro again i h0 h1
  have hw : Go.IntKind.wrap .i64 (i + 1) = i + 1 := w64 (by omega) (by omega)
  unfold wd
  obtain ⟨⟨x1, x2, x3, x4, x5⟩, hx⟩ : ∃ x, y0 l i = x := ⟨_, rfl⟩
  have hx' : l.getD i.toNat z6 = (x1, x2, x3, x4, x5) := hx
  rw [hx']
  simp only [Bool.cond_eq_ite, decide_eq_true_eq, h0, h1, if_true, hw, hx, y24, Option.bind_some]
 ·intro again i hi
  unfold wd
  simp only [Bool.cond_eq_ite, decide_eq_true_eq, if_neg hi, y8i l hl, Option.bind_some]
  cases Yl (wO l) l 0 <;> rfl
 ·cases Yl (fun _ a => !w3 a) l 0 <;> rfl
theorem y8k (l : List y9) (hl : l.length ≤ 1073741824) : KD l = some (Qn l) := by
 unfold KD y19 Qn
 refine (zD (step := wo _ _) (fun i => (l, l, (l.length : Int), i)) (fun i a => !w3 a || wO l i a) (some false) (some (decide ((l.length : Int) ≤ 60))) z6 l (by omega) ?_ ?_).trans ?_
 ·intro again i h0 h1
  have hw : Go.IntKind.wrap .i64 (i + 1) = i + 1 := w64 (by omega) (by omega)
  have hm : Go.IntKind.wrap .i64 (i - 1) = i - 1 := w64 (by omega) (by omega)
  unfold wo wO
  obtain ⟨⟨x1, x2, x3, x4, x5⟩, hx⟩ : ∃ x, y0 l i = x := ⟨_, rfl⟩
  have hx' : l.getD i.toNat z6 = (x1, x2, x3, x4, x5) := hx
  obtain ⟨⟨y1, y2, y3, y4, y5⟩, hy⟩ : ∃ y, y0 l (i - 1) = y := ⟨_, rfl⟩
  have hy' : l.getD (i - 1).toNat z6 = (y1, y2, y3, y4, y5) := hy
  rw [hx', hy']
  simp only [Bool.cond_eq_ite, decide_eq_true_eq, h0, h1, if_true, hw, hm, hx, hy, y25, y0m, Option.bind_some]
  cases w3 (x1, x2, x3, x4, x5)
  ·rfl
  ·by_cases h5 : 0 < i
   ·have h3 : 0 ≤ i - 1 := by omega
    have h4 : i - 1 < (l.length : Int) := by omega
    simp only [gt_iff_lt, h5, h3, h4, if_true, decide_true]
    cases qV (y1, y2, y3, y4, y5) (x1, x2, x3, x4, x5) <;> rfl
   ·simp [h5]
 ·intro again i hi
  unfold wo
  simp only [Bool.cond_eq_ite, decide_eq_true_eq, if_neg hi]
 ·rw [ybk]
  cases Yl (fun _ a => !w3 a) l 0 <;> cases Yl (wO l) l 0 <;> rfl
def y26 (_ : Int) (a : ya) : Bool := !Qn a || ((List.length a : Int) == 0)
def y1g (s : Int) (a : ya) : Int := Go.IntKind.wrap .i64 (s + (List.length a : Int))
def Ym (n : List ya) : Bool := !Yl y26 n 0 && (decide ((n.length : Int) ≤ 3) && decide (n.foldl y1g 0 ≤ 8))
theorem y8l (n : List ya) (hn : n.length ≤ 1073741824) : we n = some (n.foldl y1g 0) := by
 unfold we Q9
 refine zL (step := jt _) (fun (i s : Int) => (s, i, n)) (fun s => some s) yX y1g n (by omega) (fun _ _ => True) ?_ ?_ 0 trivial
 ·intro again i s h0 h1 _
  have hw : Go.IntKind.wrap .i64 (i + 1) = i + 1 := w64 (by omega) (by omega)
  refine ⟨?_, trivial⟩
  unfold jt
  simp only [Bool.cond_eq_ite, decide_eq_true_eq, h0, h1, if_true, hw]
  rfl
 ·intro again i s hi
  unfold jt
  simp only [Bool.cond_eq_ite, decide_eq_true_eq, if_neg hi]
theorem VO (n : List ya) (hn : n.length ≤ 1073741824) (hm : ∀ s ∈ n, List.length s ≤ 1073741824) : zn n = some (Ym n) := by
 unfold zn QM Ym
 refine (zD (step := Ja _ _) (fun i => (i, n)) y26 (some false) (some (decide ((n.length : Int) ≤ 3) && decide (n.foldl y1g 0 ≤ 8))) yX n (by omega) ?_ ?_).trans ?_
 ·intro again i h0 h1
  have hw : Go.IntKind.wrap .i64 (i + 1) = i + 1 := w64 (by omega) (by omega)
  have e := y8j (yo n i) (hm _ (zg yX n i h0 h1))
  unfold Ja y26
  have hx : n.getD i.toNat yX = yo n i := rfl
  rw [hx]
  simp only [Bool.cond_eq_ite, decide_eq_true_eq, h0, h1, if_true, hw, e, Option.bind_some]
  cases Qn (yo n i)
  ·rfl
  ·rfl
 ·intro again i hi
  unfold Ja
  simp only [Bool.cond_eq_ite, decide_eq_true_eq, if_neg hi, y8l n hn, Option.bind_some]
  by_cases h3 : (n.length : Int) ≤ 3 <;> simp [h3]
 ·cases Yl y26 n 0 <;> rfl
theorem VP (n : List ya) (hn : n.length ≤ 1073741824) (hm : ∀ s ∈ n, List.length s ≤ 1073741824) : zB n = some (Ym n) := by
 unfold zB y08 Ym
 refine (y44 (step := Jq _ _) (fun (i s : Int) => (s, n, (n.length : Int), i, n)) y26 y1g (some false) (fun s => some (decide ((n.length : Int) ≤ 3) && decide (s ≤ 8))) yX n (by omega) ?_ ?_ 0).trans ?_
 ·intro again i s h0 h1
  have hw : Go.IntKind.wrap .i64 (i + 1) = i + 1 := w64 (by omega) (by omega)
  have e := y8k (yo n i) (hm _ (zg yX n i h0 h1))
  unfold Jq y26 y1g
  have hx : n.getD i.toNat yX = yo n i := rfl
  rw [hx]
  simp only [Bool.cond_eq_ite, decide_eq_true_eq, h0, h1, if_true, hw, e, Option.bind_some]
  cases Qn (yo n i)
  ·rfl
  ·rfl
 ·intro again i s hi
  unfold Jq
  simp only [Bool.cond_eq_ite, decide_eq_true_eq, if_neg hi]
  by_cases h3 : (n.length : Int) ≤ 3 <;> simp [h3]
 ·cases Yl y26 n 0 <;> rfl
end Go.Proofs.YthgdjjdigalckaaGreat.Pl
namespace Go.Proofs.YthgdjjdigalckaaGreat.Pl
open Go.Proofs.YthgdjjdigalckaaGreat.R Go.Proofs.YthgdjjdigalckaaGreat.XC
def small (is : List ye) (ns : List y8) (ags : List yd) (cs : List yb) (vs : List yl) : Prop :=
 is.length ≤ 1048576 ∧ ns.length ≤ 1048576 ∧ W4 Qw ns ≤ 1048576 ∧ ags.length ≤ 1048576 ∧ cs.length ≤ 1048576 ∧ vs.length ≤ 1048576
theorem W6 {ns : List y8} (h : W4 Qw ns ≤ 1048576) {n : List ya} (hn : n ∈ ns) : n.length ≤ 1048576 ∧ ∀ s ∈ n, List.length s ≤ 1048576 := by
 have h1 := (y0K KF hn).1
 have h2 := wN K8 n
 have h3 : Qw n = (List.length n : Int) + W4 Vi n := rfl
 refine ⟨by omega, fun s hs => ?_⟩
 have h4 := (y0K K8 hs).1
 have h5 : Vi s = (List.length s : Int) := rfl
 omega
end Go.Proofs.YthgdjjdigalckaaGreat.Pl
namespace Go.Proofs.YthgdjjdigalckaaGreat.Pl
open Go.Proofs.YthgdjjdigalckaaGreat.R Go.Proofs.YthgdjjdigalckaaGreat.XC
def ybm (a : y9) : Int := Go.IntKind.wrap .i64 (Go.IntKind.wrap .i64 ((64 : Int) * a.1) + a.2.1)
def ymt (q : List Int) (i : Int) (_ : Int) (a : y9) : Bool := decide (ybm a < q.getD i.toNat 0) || (decide (i + 1 < (q.length : Int)) && decide (ybm a ≥ q.getD (i + 1).toNat 0))
theorem TOk.node {t : List y8} (h : TOk t) {n : List ya} (hn : n ∈ t) : n.length ≤ 1048576 ∧ ∀ s ∈ n, List.length s ≤ 1048576 := W6 h.sum hn
theorem TOk.sumK {t : List y8} (h : TOk t) {n : List ya} (hn : n ∈ t) : W4 Vi n ≤ 1048576 := by
 have h1 := (y0K KF hn).1
 have h2 := y22 n
 have h3 := h.sum
 omega
theorem ydj {R : Type} (k0 : (Int × Bool × Int × List ye × List y8 × List ya) → Option R) (k1 : (Int × Int × List ye × List y8 × List ya) → Option R) (i k : Int) (q : List Int) (t : List y8) (n : List ya) (hk0 : 0 ≤ k) (hk : k < (n.length : Int)) (hi0 : 0 ≤ i) (hi : i < (q.length : Int)) (hq : q.length ≤ 1048576) (hs : List.length (yo n k) ≤ 1048576) :
  vw k0 k1 (i, k, 0, q, t, n) = if Yl (ymt q i) (yo n k) 0 = true then k0 (i, false, k, q, t, n) else k1 (i, k, q, t, n) := by
 unfold vw
 refine zD (step := Jb k0 k1) (fun j => (i, k, j, q, t, n)) (ymt q i) _ _ z6 (yo n k) (by omega) ?_ ?_
 ·intro again j h0 h1
  have hw : Go.IntKind.wrap .i64 (j + 1) = j + 1 := w64 (by omega) (by omega)
  have hwi : Go.IntKind.wrap .i64 (i + 1) = i + 1 := w64 (by omega) (by omega)
  unfold Jb ymt JI JH ybm
  obtain ⟨⟨x1, x2, x3, x4, x5⟩, hx⟩ : ∃ x, y0 (yo n k) j = x := ⟨_, rfl⟩
  have hx' : (yo n k).getD j.toNat z6 = (x1, x2, x3, x4, x5) := hx
  have e1 : q.getD i.toNat 0 = zl q i := rfl
  have e2 : q.getD (i + 1).toNat 0 = zl q (i + 1) := rfl
  rw [hx', e1, e2]
  have hi1 : 0 ≤ i + 1 := by omega
  simp only [Bool.cond_eq_ite, decide_eq_true_eq, h0, h1, hk0, hk, hi0, hi, hi1, if_true, hw, hwi, hx, Option.bind_some]
  by_cases h2 : Go.IntKind.wrap .i64 (Go.IntKind.wrap .i64 ((64 : Int) * x1) + x2) < zl q i
  ·simp [h2]
  ·by_cases h3 : i + 1 < (q.length : Int)
   ·simp [h2, h3]
   ·simp [h2, h3]
 ·intro again j hj
  unfold Jb
  simp only [Bool.cond_eq_ite, decide_eq_true_eq, hk0, hk, if_true, if_neg hj]
def yf7 (q : List Int) (i : Int) (_ : Int) (s : ya) : Bool := Yl (ymt q i) s 0
def yf8 (n : y8) : Bool := ((z4 n).length : Int) == 0
def ybn (q : List Int) (i : Int) (n : y8) : Bool := Ym n && (!(decide (0 < i) && yf8 n) && !Yl (yf7 q i) n 0)
theorem y5o (q : List Int) (t : List y8) (i : Int) (ht : TOk t) (hi0 : 0 ≤ i) (hi : i < (t.length : Int)) (hq : q.length = t.length) : Wh (q, t, i) = some (ybn q i (yh t i)) := by
 have hmem : yh t i ∈ t := zg yB t i hi0 hi
 obtain ⟨hn, hs⟩ := ht.node hmem
 have hlen := ht.len
 have hq1 : i < (q.length : Int) := by omega
 have hq2 : q.length ≤ 1048576 := by omega
 have e1 := VO (yh t i) (by omega) (fun s hh => by have := hs s hh; omega)
 have e2 : yE (yh t i) = some (z4 (yh t i)) := Z0 _ (by omega) (ht.sumK hmem)
 unfold Wh ybn yf8
 simp only [hi0, hi, if_true, e1, Option.bind_some]
 generalize yh t i = n at *
 cases Ym n
 ·rfl
 ·have key : vy (fun x10 => some x10) (fun x11 => some true) (i, 0, q, t, n) = some (!Yl (yf7 q i) n 0) := by
   unfold vy
   refine (zD (step := Jc _ _) (fun k => (i, k, q, t, n)) (yf7 q i) (some false) (some true) yX n (by omega) ?_ ?_).trans ?_
   ·intro again k h0 h1
    have hw : Go.IntKind.wrap .i64 (k + 1) = k + 1 := w64 (by omega) (by omega)
    have hsk : List.length (yo n k) ≤ 1048576 := hs _ (zg yX n k h0 h1)
    unfold Jc yf7
    have hx : n.getD k.toNat yX = yo n k := rfl
    rw [hx]
    simp only [Bool.cond_eq_ite, decide_eq_true_eq, h1, if_true, ydj _ _ i k q t n h0 h1 hi0 hq1 hq2 hsk, hw]
   ·intro again k hk
    unfold Jc
    simp only [Bool.cond_eq_ite, decide_eq_true_eq, if_neg hk]
   ·cases Yl (yf7 q i) n 0 <;> rfl
  simp only [key, e2, Option.bind_some, Bool.not_true, cond_false, gt_iff_lt]
  by_cases h0 : 0 < i
  ·simp only [h0, decide_true, cond_true, Bool.true_and]
   cases (((z4 n).length : Int) == 0) <;> rfl
  ·simp only [h0, decide_false, cond_false, Bool.false_and]
   rfl
theorem ydk {R : Type} (k0 : (Int × Bool × List ya × Int × Int × List ye × List y8) → Option R) (k1 : (Int × List ya × Int × Int × List ye × List y8) → Option R) (i k m : Int) (q : List Int) (t : List y8) (n : List ya) (s : List y9) (hi0 : 0 ≤ i) (hi : i < (q.length : Int)) (hq : q.length ≤ 1048576) (hs : s.length ≤ 1048576) :
  kX k0 k1 (i, n, m, k, s, (s.length : Int), 0, q, t) = if Yl (ymt q i) s 0 = true then k0 (i, false, n, m, k, q, t) else k1 (i, n, m, k, q, t) := by
 unfold kX
 refine zD (step := ZU k0 k1) (fun j => (i, n, m, k, s, (s.length : Int), j, q, t)) (ymt q i) _ _ z6 s (by omega) ?_ ?_
 ·intro again j h0 h1
  have hw : Go.IntKind.wrap .i64 (j + 1) = j + 1 := w64 (by omega) (by omega)
  have hwi : Go.IntKind.wrap .i64 (i + 1) = i + 1 := w64 (by omega) (by omega)
  unfold ZU ymt Ze ybm
  obtain ⟨⟨x1, x2, x3, x4, x5⟩, hx⟩ : ∃ x, y0 s j = x := ⟨_, rfl⟩
  have hx' : s.getD j.toNat z6 = (x1, x2, x3, x4, x5) := hx
  have e1 : q.getD i.toNat 0 = zl q i := rfl
  have e2 : q.getD (i + 1).toNat 0 = zl q (i + 1) := rfl
  rw [hx', e1, e2]
  have hi1 : 0 ≤ i + 1 := by omega
  simp only [Bool.cond_eq_ite, decide_eq_true_eq, h0, h1, hi0, hi, hi1, if_true, hw, hwi, hx, Option.bind_some]
  by_cases h2 : Go.IntKind.wrap .i64 (Go.IntKind.wrap .i64 ((64 : Int) * x1) + x2) < zl q i
  ·simp [h2]
  ·by_cases h3 : i + 1 < (q.length : Int)
   ·simp [h2, h3]
   ·simp [h2, h3]
 ·intro again j hj
  unfold ZU
  simp only [Bool.cond_eq_ite, decide_eq_true_eq, if_neg hj]
theorem y3n (q : List Int) (t : List y8) (i : Int) (ht : TOk t) (hi0 : 0 ≤ i) (hi : i < (t.length : Int)) (hq : q.length = t.length) : Jr (q, t, i) = some (!Yl (yf7 q i) (yh t i) 0) := by
 have hmem : yh t i ∈ t := zg yB t i hi0 hi
 obtain ⟨hn, hs⟩ := ht.node hmem
 have hlen := ht.len
 have hq1 : i < (q.length : Int) := by omega
 have hq2 : q.length ≤ 1048576 := by omega
 unfold Jr qv
 simp only [hi0, hi, if_true]
 generalize yh t i = n at *
 refine (zD (step := ZV _ _) (fun k => (i, n, (n.length : Int), k, q, t)) (yf7 q i) (some false) (some true) yX n (by omega) ?_ ?_).trans ?_
 ·intro again k h0 h1
  have hw : Go.IntKind.wrap .i64 (k + 1) = k + 1 := w64 (by omega) (by omega)
  have hsk : List.length (yo n k) ≤ 1048576 := hs _ (zg yX n k h0 h1)
  unfold ZV yf7
  have hx : n.getD k.toNat yX = yo n k := rfl
  rw [hx]
  simp only [Bool.cond_eq_ite, decide_eq_true_eq, h0, h1, if_true, ydk _ _ i k (n.length : Int) q t n _ hi0 hq1 hq2 hsk, hw]
 ·intro again k hk
  unfold ZV
  simp only [Bool.cond_eq_ite, decide_eq_true_eq, if_neg hk]
 ·cases Yl (yf7 q i) n 0 <;> rfl
def ymu (q : List Int) (i : Int) : Bool := decide (0 < i) && decide (q.getD (i - 1).toNat 0 ≥ q.getD i.toNat 0)
def y0q (q : List Int) (i : Int) (n : y8) : Bool := ymu q i || !ybn q i n
def y4N (s : Int) (n : y8) : Int := Go.IntKind.wrap .i64 (s + ((z4 n).length : Int))
def YR (q : List Int) (t : List y8) : Bool :=
 inR (t.length : Int) 1 20 && (decide (q.length = t.length) && ((q.getD 0 0 == 0) && (!Yl (y0q q) t 0 && decide (((zb t).length : Int) ≤ 60))))
theorem yf9 : ∀ (t : List y8) (s : List y9), (s.length : Int) + W4 Qw t ≤ 1048576 → t.foldl y4N (s.length : Int) = ((t.foldl KS s).length : Int)
 | [], _, _ => rfl
 | n :: t, s, h => by
  rw [Y1] at h
  have h1 := V9 n
  have h2 := y22 n
  have h3 := wN KF t
  have h4 : (KS s n).length = s.length + (z4 n).length := List.length_append
  rw [List.foldl_cons, List.foldl_cons, show y4N (s.length : Int) n = ((KS s n).length : Int) by
   unfold y4N
   rw [h4, w64 (by omega) (by omega)]
   omega]
  exact yf9 t (KS s n) (by rw [h4]; omega)
theorem VQ (q : List Int) (t : List y8) (ht : TOk t) : Y9 (q, t) = some (YR q t) := by
 have hlen := ht.len
 unfold Y9 YR
 simp only [Zy, Option.bind_some]
 cases h1 : inR (t.length : Int) 1 20
 ·rfl
 by_cases hq : q.length = t.length
 ·have hq' : ((q.length : Int) != (t.length : Int)) = false := by simp [hq]
  have hpos : 0 < (q.length : Int) := by
   have := (jS.1 h1).1
   omega
  have hd : decide (q.length = t.length) = true := by simp [hq]
  simp only [hq', hd, Bool.not_true, cond_false, cond_true, Option.bind_some, Bool.true_and]
  rw [if_pos (Int.le_refl _), if_pos (by omega)]
  have e0 : zl q 0 = q.getD 0 0 := rfl
  rw [e0]
  try simp only [Option.bind_some]
  by_cases hz : q.getD 0 0 = 0
  ·have hz1 : (q.getD 0 0 != 0) = false := by rw [hz]; rfl
   have hz2 : (q.getD 0 0 == 0) = true := by rw [hz]; rfl
   rw [hz1, hz2]
   simp only [cond_false, Bool.true_and]
   unfold QN
   refine (zD (step := Jd _ _) (fun i => (i, q, t)) (y0q q) (some false) (some (decide (((zb t).length : Int) ≤ 60))) yB t (by omega) ?_ ?_).trans ?_
   ·intro again i h0 h1
    have hw : Go.IntKind.wrap .i64 (i + 1) = i + 1 := w64 (by omega) (by omega)
    have hm : Go.IntKind.wrap .i64 (i - 1) = i - 1 := w64 (by omega) (by omega)
    have e := y5o q t i ht h0 h1 hq
    unfold Jd y0q ymu
    have hx : t.getD i.toNat yB = yh t i := rfl
    have e1 : q.getD i.toNat 0 = zl q i := rfl
    have e2 : q.getD (i - 1).toNat 0 = zl q (i - 1) := rfl
    rw [hx, e1, e2]
    simp only [Bool.cond_eq_ite, decide_eq_true_eq, h0, h1, if_true, hw, hm, e, gt_iff_lt]
    by_cases h5 : 0 < i
    ·rw [if_pos h5, if_pos (by omega), if_pos (by omega), if_pos (by omega)]
     simp only [h5, decide_true, Option.bind_some, Bool.true_and]
     cases decide (zl q (i - 1) ≥ zl q i) <;> cases ybn q i (yh t i) <;> rfl
    ·rw [if_neg h5]
     simp only [h5, decide_false, Option.bind_some, Bool.false_and]
     cases ybn q i (yh t i) <;> rfl
   ·intro again i hi
    have e : yu (q, t) = some (zb t) := zz q t (by omega) ht.nodes ht.sum
    unfold Jd
    simp only [Bool.cond_eq_ite, decide_eq_true_eq, if_neg hi, e, Option.bind_some]
   ·cases Yl (y0q q) t 0 <;> rfl
  ·have hz1 : (q.getD 0 0 != 0) = true := by simpa using hz
   have hz2 : (q.getD 0 0 == 0) = false := by simpa using hz
   rw [hz1, hz2]
   rfl
 ·have hq' : ((q.length : Int) != (t.length : Int)) = true := by
   simp only [bne_iff_ne, ne_eq]
   omega
  have hd : decide (q.length = t.length) = false := by simp [hq]
  simp only [hq', hd, Bool.not_true, cond_false, cond_true, Option.bind_some, Bool.false_and, Bool.and_false]
theorem VR (q : List Int) (t : List y8) (ht : TOk t) : Yb (q, t) = some (YR q t) := by
 have hlen := ht.len
 unfold Yb YR
 simp only [jI, Option.bind_some]
 cases h1 : inR (t.length : Int) 1 20
 ·rfl
 by_cases hq : q.length = t.length
 ·have hq' : ((q.length : Int) != (t.length : Int)) = false := by simp [hq]
  have hpos : 0 < (q.length : Int) := by
   have := (jS.1 h1).1
   omega
  have hd : decide (q.length = t.length) = true := by simp [hq]
  simp only [hq', hd, Bool.not_true, cond_false, cond_true, Option.bind_some, Bool.true_and]
  rw [if_pos (Int.le_refl _), if_pos (by omega)]
  have e0 : zl q 0 = q.getD 0 0 := rfl
  rw [e0]
  try simp only [Option.bind_some]
  by_cases hz : q.getD 0 0 = 0
  ·have hz1 : (q.getD 0 0 != 0) = false := by rw [hz]; rfl
   have hz2 : (q.getD 0 0 == 0) = true := by rw [hz]; rfl
   rw [hz1, hz2]
   simp only [cond_false, Bool.true_and]
   unfold y09
   refine (y44 (step := Js _ _) (fun (i s : Int) => (s, t, (t.length : Int), i, q, t)) (y0q q) y4N (some false) (fun s => some (decide (s ≤ 60))) yB t (by omega) ?_ ?_ 0).trans ?_
   ·intro again i s h0 h1
    have hmem : yh t i ∈ t := zg yB t i h0 h1
    obtain ⟨hn, hss⟩ := ht.node hmem
    have hw : Go.IntKind.wrap .i64 (i + 1) = i + 1 := w64 (by omega) (by omega)
    have hm : Go.IntKind.wrap .i64 (i - 1) = i - 1 := w64 (by omega) (by omega)
    have e3 := VP (yh t i) (by omega) (fun s hh => by have := hss s hh; omega)
    have e4 := y3n q t i ht h0 h1 hq
    have e5 : yN (yh t i) = some (z4 (yh t i)) := jH _ (by omega) (ht.sumK hmem)
    unfold Js y0q ymu ybn yf8 y4N
    have hx : t.getD i.toNat yB = yh t i := rfl
    have e1 : q.getD i.toNat 0 = zl q i := rfl
    have e2 : q.getD (i - 1).toNat 0 = zl q (i - 1) := rfl
    rw [hx, e1, e2]
    simp only [Bool.cond_eq_ite, decide_eq_true_eq, h0, h1, if_true, hw, hm, e3, e4, e5, gt_iff_lt, Option.bind_some]
    by_cases h5 : 0 < i
    ·rw [if_pos h5, if_pos (by omega), if_pos (by omega), if_pos (by omega)]
     simp only [h5, decide_true, Option.bind_some, Bool.true_and, if_true]
     cases decide (zl q (i - 1) ≥ zl q i) <;> cases Ym (yh t i) <;> cases Yl (yf7 q i) (yh t i) 0 <;> cases (((z4 (yh t i)).length : Int) == 0) <;> rfl
    ·rw [if_neg h5]
     simp only [h5, decide_false, Option.bind_some, Bool.false_and, if_false]
     cases Ym (yh t i) <;> cases Yl (yf7 q i) (yh t i) 0 <;> rfl
   ·intro again i s hi
    unfold Js
    simp only [Bool.cond_eq_ite, decide_eq_true_eq, if_neg hi]
   ·have := yf9 t [] (by have := ht.sum; simpa using this)
    simp only [List.length_nil] at this
    rw [show ((0 : Nat) : Int) = 0 from rfl] at this
    rw [this]
    unfold zb
    cases Yl (y0q q) t 0 <;> rfl
  ·have hz1 : (q.getD 0 0 != 0) = true := by simpa using hz
   have hz2 : (q.getD 0 0 == 0) = false := by simpa using hz
   rw [hz1, hz2]
   rfl
 ·have hq' : ((q.length : Int) != (t.length : Int)) = true := by
   simp only [bne_iff_ne, ne_eq]
   omega
  have hd : decide (q.length = t.length) = false := by simp [hq]
  simp only [hq', hd, Bool.not_true, cond_false, cond_true, Option.bind_some, Bool.false_and, Bool.and_false]
end Go.Proofs.YthgdjjdigalckaaGreat.Pl
namespace Go.Proofs.YthgdjjdigalckaaGreat.Pl
open Go.Proofs.YthgdjjdigalckaaGreat.R Go.Proofs.YthgdjjdigalckaaGreat.XC
def isW (n : Int) : Bool := inR n 0 65535
theorem y27 (x : Int) : zo x = some (isW x) := by unfold zo; rw [Zy]; rfl
theorem yfa (x : Int) : WX x = some (isW x) := by unfold WX; rw [jI]; rfl
def y8m (c : Int) : Bool := inR c 97 122 || inR c 48 57
def qX (l : List UInt8) : Bool := l.all fun c => y8m (c.toNat : Int)
def jZ (s : ByteArray) : Bool := qX s.data.toList && inR s.size 1 6
theorem ycp (c : UInt8) : Go.IntKind.wrap .i64 (c.toNat : Int) = c.toNat := by
 have := c.toNat_lt
 exact w64 (by omega) (by omega)
theorem yhq (s : ByteArray) (i : Nat) (h : i < s.size) : ByteArray.get s i h = s.data.toList[i]'(by rw [Array.length_toList]; exact h) := by
 rw [Array.getElem_toList]
 rfl
theorem y9v (s : ByteArray) (i : Nat) (h : i < s.size) : s.data.toList.drop i = ByteArray.get s i h :: s.data.toList.drop (i + 1) := by
 rw [yhq, ← List.drop_eq_getElem_cons]
theorem wy (s : ByteArray) (hs : s.size ≤ maxLen) : Ya s = some (jZ s) := by
 have hm : (s.size : Int) ≤ 9223372036854775807 := by simp only [maxLen] at hs; omega
 unfold Ya QP
 rw [Ys (fun t : ByteArray × Int => t.1.size - t.2.toNat) (fun t => t.1 = s ∧ 0 ≤ t.2 ∧ t.2 ≤ s.size) (fun t => if qX (t.1.data.toList.drop t.2.toNat) then some (inR s.size 1 6) else some false) ?_ (s, 0) ⟨rfl, by simp, by simp⟩ (by simp only [maxLen] at hs; simp; omega)]
 ·unfold jZ
  cases h : qX s.data.toList <;> simp [h]
 ·rintro again ⟨s', i⟩ ⟨rfl, h0, h1⟩ hag
  simp only at h0 h1 hs hm ⊢
  unfold vE
  simp only [Bool.cond_eq_ite, decide_eq_true_eq]
  by_cases hi : i < (s'.size : Int)
  ·have hn : i.toNat < s'.size := by omega
   rw [if_pos hi, if_pos h0, dif_pos hn]
   simp only [Zy, Option.bind_some, if_pos h0, dif_pos hn, ycp]
   rw [y9v s' i.toNat hn]
   have hw : Go.IntKind.wrap .i64 (i + 1) = i + 1 := w64 (by omega) (by omega)
   have e1 : (i + 1).toNat = i.toNat + 1 := by omega
   have hag' := hag (s', i + 1) ⟨rfl, by simp only; omega, by simp only; omega⟩ (by simp only; omega)
   simp only [qX, List.all_cons, y8m] at hag' ⊢
   rw [hw, hag', e1]
   obtain ⟨c, hc⟩ : ∃ c, ByteArray.get s' i.toNat hn = c := ⟨_, rfl⟩
   simp only [hc]
   cases inR (c.toNat : Int) 97 122 <;> cases inR (c.toNat : Int) 48 57 <;> simp
  ·rw [if_neg hi, List.drop_of_length_le (by rw [Array.length_toList]; show s'.size ≤ _; omega)]
   simp [qX, Zy]
theorem y5p (s : ByteArray) (hs : s.size ≤ maxLen) : WY s = some (jZ s) := by
 have hm : (s.size : Int) ≤ 9223372036854775807 := by simp only [maxLen] at hs; omega
 unfold WY y0b
 rw [Ys (fun t : ByteArray × Int => t.1.size - t.2.toNat) (fun t => t.1 = s ∧ 0 ≤ t.2 ∧ t.2 ≤ s.size) (fun t => if qX (t.1.data.toList.drop t.2.toNat) then some (inR s.size 1 6) else some false) ?_ (s, 0) ⟨rfl, by simp, by simp⟩ (by simp only [maxLen] at hs; simp; omega)]
 ·unfold jZ
  cases h : qX s.data.toList <;> simp [h]
 ·rintro again ⟨s', i⟩ ⟨rfl, h0, h1⟩ hag
  simp only at h0 h1 hs hm ⊢
  unfold vX
  simp only [Bool.cond_eq_ite, decide_eq_true_eq]
  by_cases hi : i < (s'.size : Int)
  ·have hn : i.toNat < s'.size := by omega
   rw [if_pos hi, if_pos h0, dif_pos hn]
   simp only [jI, Option.bind_some, if_pos h0, dif_pos hn, ycp]
   rw [y9v s' i.toNat hn]
   have hw : Go.IntKind.wrap .i64 (i + 1) = i + 1 := w64 (by omega) (by omega)
   have e1 : (i + 1).toNat = i.toNat + 1 := by omega
   have hag' := hag (s', i + 1) ⟨rfl, by simp only; omega, by simp only; omega⟩ (by simp only; omega)
   simp only [qX, List.all_cons, y8m] at hag' ⊢
   rw [hw, hag', e1]
   obtain ⟨c, hc⟩ : ∃ c, ByteArray.get s' i.toNat hn = c := ⟨_, rfl⟩
   simp only [hc]
   cases inR (c.toNat : Int) 97 122 <;> cases inR (c.toNat : Int) 48 57 <;> simp
  ·rw [if_neg hi, List.drop_of_length_le (by rw [Array.length_toList]; show s'.size ≤ _; omega)]
   simp [qX, jI]
end Go.Proofs.YthgdjjdigalckaaGreat.Pl
namespace Go.Proofs.YthgdjjdigalckaaGreat.Pl
open Go.Proofs.YthgdjjdigalckaaGreat.R Go.Proofs.YthgdjjdigalckaaGreat.XC
def yfb (l : List yd) (i : Int) : List yd := List.drop (Int.toNat (0 : Int)) (List.take (Int.toNat i) l)
def y9w (l : List yd) (i : Int) (a : yd) : Bool := !inR a.1 1 60 || ((decide (0 < i) && decide ((l.getD (i - 1).toNat Y0).1 ≥ a.1)) || (a.2 != 0 && decide (zZ (yfb l i) a.2 < 0)))
def wP (l : List yd) : Bool := !Yl (y9w l) l 0 && decide ((l.length : Int) ≤ 16)
theorem ycq (l : List yd) (i : Int) : (yfb l i).length ≤ l.length := by
 unfold yfb
 simp only [List.length_drop, List.length_take]
 omega
theorem Kn (l : List yd) (hl : l.length ≤ 1048576) : Z5 l = some (wP l) := by
 unfold Z5 QO wP
 refine (zD (step := Je _ _) (fun i => (l, i)) (y9w l) (some false) (some (decide ((l.length : Int) ≤ 16))) Y0 l (by omega) ?_ ?_).trans ?_
 ·intro again i h0 h1
  have hw : Go.IntKind.wrap .i64 (i + 1) = i + 1 := w64 (by omega) (by omega)
  have hm : Go.IntKind.wrap .i64 (i - 1) = i - 1 := w64 (by omega) (by omega)
  unfold Je y9w
  obtain ⟨⟨x1, x2⟩, hx⟩ : ∃ x, yC l i = x := ⟨_, rfl⟩
  have hx' : l.getD i.toNat Y0 = (x1, x2) := hx
  have hy : l.getD (i - 1).toNat Y0 = yC l (i - 1) := rfl
  have e : zG (List.drop (Int.toNat (0 : Int)) (List.take (Int.toNat i) l), x2) = some (zZ (yfb l i) x2) := Zo (yfb l i) x2 (by have := ycq l i; omega)
  rw [hx', hy]
  have h2 : i ≤ (l.length : Int) := by omega
  simp only [Bool.cond_eq_ite, decide_eq_true_eq, h0, h1, h2, if_true, hw, hm, hx, Zy, e, Option.bind_some, Int.le_refl, gt_iff_lt]
  cases inR x1 1 60
  ·rfl
  ·by_cases h5 : 0 < i
   ·have h3 : 0 ≤ i - 1 := by omega
    have h4 : i - 1 < (l.length : Int) := by omega
    simp only [h5, h3, h4, if_true, decide_true]
    cases decide ((yC l (i - 1)).1 ≥ x1) <;> cases (x2 != 0) <;> cases decide (zZ (yfb l i) x2 < 0) <;> rfl
   ·simp only [h5, if_false, decide_false]
    cases (x2 != 0) <;> cases decide (zZ (yfb l i) x2 < 0) <;> rfl
 ·intro again i hi
  unfold Je
  simp only [Bool.cond_eq_ite, decide_eq_true_eq, if_neg hi]
 ·cases Yl (y9w l) l 0 <;> rfl
theorem y1h (l : List yd) (hl : l.length ≤ 1048576) : JU l = some (wP l) := by
 unfold JU y0a wP
 refine (zD (step := Jt _ _) (fun i => (l, l, (l.length : Int), i)) (y9w l) (some false) (some (decide ((l.length : Int) ≤ 16))) Y0 l (by omega) ?_ ?_).trans ?_
 ·intro again i h0 h1
  have hw : Go.IntKind.wrap .i64 (i + 1) = i + 1 := w64 (by omega) (by omega)
  have hm : Go.IntKind.wrap .i64 (i - 1) = i - 1 := w64 (by omega) (by omega)
  unfold Jt y9w
  obtain ⟨⟨x1, x2⟩, hx⟩ : ∃ x, yC l i = x := ⟨_, rfl⟩
  have hx' : l.getD i.toNat Y0 = (x1, x2) := hx
  have hy : l.getD (i - 1).toNat Y0 = yC l (i - 1) := rfl
  have e : YB (List.drop (Int.toNat (0 : Int)) (List.take (Int.toNat i) l), x2) = some (zZ (yfb l i) x2) := kp (yfb l i) x2 (by have := ycq l i; omega)
  rw [hx', hy]
  have h2 : i ≤ (l.length : Int) := by omega
  simp only [Bool.cond_eq_ite, decide_eq_true_eq, h0, h1, h2, if_true, hw, hm, hx, jI, e, Option.bind_some, Int.le_refl, gt_iff_lt]
  cases inR x1 1 60
  ·rfl
  ·by_cases h5 : 0 < i
   ·have h3 : 0 ≤ i - 1 := by omega
    have h4 : i - 1 < (l.length : Int) := by omega
    simp only [h5, h3, h4, if_true, decide_true]
    cases decide ((yC l (i - 1)).1 ≥ x1) <;> cases (x2 != 0) <;> cases decide (zZ (yfb l i) x2 < 0) <;> rfl
   ·simp only [h5, if_false, decide_false]
    cases (x2 != 0) <;> cases decide (zZ (yfb l i) x2 < 0) <;> rfl
 ·intro again i hi
  unfold Jt
  simp only [Bool.cond_eq_ite, decide_eq_true_eq, if_neg hi]
 ·cases Yl (y9w l) l 0 <;> rfl
def y0r (id : Int) (s : List Int) (a : yd) : List Int := if (a.2 == id && id != 0) = true then s ++ [a.1] else s
def zE (l : List yd) (id : Int) : List Int := l.foldl (y0r id) []
theorem y68 (id : Int) (s : List Int) (a : yd) : (y0r id s a).length ≤ s.length + 1 := by
 unfold y0r
 split <;> simp
theorem Ko (l : List yd) (id : Int) (hl : l.length ≤ 1048576) : jj (l, id) = some (zE l id) := by
 unfold jj QQ zE
 refine zL (step := Jf _) (fun (i : Int) (s : List Int) => (l, id, i, s)) (fun s => some s) Y0 (y0r id) l (by omega) (fun i s => s.length ≤ i) ?_ ?_ [] (by simp)
 ·intro again i s h0 h1 hI
  have hw : Go.IntKind.wrap .i64 (i + 1) = i + 1 := w64 (by omega) (by omega)
  have hs := y68 id s (l.getD i.toNat Y0)
  refine ⟨?_, by omega⟩
  have c1 : (s.length + 1) * 8 < 140737488355328 := by omega
  clear hs
  unfold Jf y0r
  obtain ⟨⟨x1, x2⟩, hx⟩ : ∃ x, yC l i = x := ⟨_, rfl⟩
  have hx' : l.getD i.toNat Y0 = (x1, x2) := hx
  rw [hx']
  simp only [Bool.cond_eq_ite, decide_eq_true_eq, h0, h1, if_true, hw, hx, List.length_cons, List.length_nil, Nat.zero_add, c1]
  cases (x2 == id) <;> cases (id != 0) <;> rfl
 ·intro again i s hi
  unfold Jf
  simp only [Bool.cond_eq_ite, decide_eq_true_eq, if_neg hi]
theorem yfc (l : List yd) : zE l 0 = [] := by
 have : ∀ (l : List yd) (s : List Int), l.foldl (y0r 0) s = s := by
  intro l
  induction l with
  | nil => intro s; rfl
  | cons a l ih =>
   intro s
   rw [List.foldl_cons, ih]
   unfold y0r
   simp
 exact this l []
theorem Kp (l : List yd) (id : Int) (hl : l.length ≤ 1048576) : Zf (l, id) = some (zE l id) := by
 unfold Zf
 by_cases hid : id = 0
 ·subst hid
  rw [yfc]
  rfl
 ·have hid1 : (id == 0) = false := by simpa using hid
  have hid2 : (id != 0) = true := by simpa using hid
  simp only [hid1, cond_false]
  unfold y0c zE
  refine zL (step := Ju _) (fun (i : Int) (s : List Int) => (id, l, (l.length : Int), i, s)) (fun s => some s) Y0 (y0r id) l (by omega) (fun i s => s.length ≤ i) ?_ ?_ [] (by simp)
  ·intro again i s h0 h1 hI
   have hw : Go.IntKind.wrap .i64 (i + 1) = i + 1 := w64 (by omega) (by omega)
   have hs := y68 id s (l.getD i.toNat Y0)
   refine ⟨?_, by omega⟩
   have c1 : (s.length + 1) * 8 < 140737488355328 := by omega
   clear hs
   unfold Ju y0r
   obtain ⟨⟨x1, x2⟩, hx⟩ : ∃ x, yC l i = x := ⟨_, rfl⟩
   have hx' : l.getD i.toNat Y0 = (x1, x2) := hx
   rw [hx']
   simp only [Bool.cond_eq_ite, decide_eq_true_eq, h0, h1, if_true, hw, hx, List.length_cons, List.length_nil, Nat.zero_add, c1, hid2]
   cases (x2 == id) <;> rfl
  ·intro again i s hi
   unfold Ju
   simp only [Bool.cond_eq_ite, decide_eq_true_eq, if_neg hi]
def ybo (_ : Int) (a : yb) : Bool := !inR a.1 0 999 || (!isW a.2.2 || (!a.2.1 && a.2.2 != 0))
def YS (l : List yb) : Bool := !Yl ybo l 0 && ((l.length : Int) == 24)
theorem Va (l : List yb) (hl : l.length ≤ 1048576) : Zt l = some (YS l) := by
 unfold Zt Qa YS
 refine (zD (step := ju _ _) (fun i => (l, i)) ybo (some false) (some ((l.length : Int) == 24)) ZB l (by omega) ?_ ?_).trans ?_
 ·intro again i h0 h1
  have hw : Go.IntKind.wrap .i64 (i + 1) = i + 1 := w64 (by omega) (by omega)
  unfold ju ybo
  obtain ⟨⟨x1, x2, x3⟩, hx⟩ : ∃ x, yA l i = x := ⟨_, rfl⟩
  have hx' : l.getD i.toNat ZB = (x1, x2, x3) := hx
  rw [hx']
  simp only [Bool.cond_eq_ite, decide_eq_true_eq, h0, h1, if_true, hw, hx, Zy, y27, Option.bind_some]
  cases inR x1 0 999 <;> cases isW x3 <;> cases x2 <;> cases (x3 != 0) <;> rfl
 ·intro again i hi
  unfold ju
  simp only [Bool.cond_eq_ite, decide_eq_true_eq, if_neg hi]
 ·cases Yl ybo l 0 <;> rfl
theorem y0s (l : List yb) (hl : l.length ≤ 1048576) : jQ l = some (YS l) := by
 unfold jQ Qh YS
 refine (zD (step := jB _ _) (fun i => (l, l, (l.length : Int), i)) ybo (some false) (some ((l.length : Int) == 24)) ZB l (by omega) ?_ ?_).trans ?_
 ·intro again i h0 h1
  have hw : Go.IntKind.wrap .i64 (i + 1) = i + 1 := w64 (by omega) (by omega)
  unfold jB ybo
  obtain ⟨⟨x1, x2, x3⟩, hx⟩ : ∃ x, yA l i = x := ⟨_, rfl⟩
  have hx' : l.getD i.toNat ZB = (x1, x2, x3) := hx
  rw [hx']
  simp only [Bool.cond_eq_ite, decide_eq_true_eq, h0, h1, if_true, hw, hx, jI, yfa, Option.bind_some]
  cases inR x1 0 999 <;> cases isW x3 <;> cases x2 <;> cases (x3 != 0) <;> rfl
 ·intro again i hi
  unfold jB
  simp only [Bool.cond_eq_ite, decide_eq_true_eq, if_neg hi]
 ·cases Yl ybo l 0 <;> rfl
def y4O (s : Int) (a : yb) : Int := if a.2.1 = true then Go.IntKind.wrap .i64 (s + 1) else s
def y9x (l : List yb) : Int := l.foldl y4O 0
theorem y31 (l : List yb) (hl : l.length ≤ 1048576) : YV l = some (y9x l) := by
 unfold YV Vr y9x
 refine zL (step := Z6 _) (fun (i s : Int) => (l, s, i)) (fun s => some s) ZB y4O l (by omega) (fun _ _ => True) ?_ ?_ 0 trivial
 ·intro again i s h0 h1 _
  have hw : Go.IntKind.wrap .i64 (i + 1) = i + 1 := w64 (by omega) (by omega)
  refine ⟨?_, trivial⟩
  unfold Z6 y4O
  obtain ⟨⟨x1, x2, x3⟩, hx⟩ : ∃ x, yA l i = x := ⟨_, rfl⟩
  have hx' : l.getD i.toNat ZB = (x1, x2, x3) := hx
  rw [hx']
  simp only [Bool.cond_eq_ite, decide_eq_true_eq, h0, h1, if_true, hw, hx]
  cases x2 <;> rfl
 ·intro again i s hi
  unfold Z6
  simp only [Bool.cond_eq_ite, decide_eq_true_eq, if_neg hi]
theorem y32 (l : List yb) (hl : l.length ≤ 1048576) : YZ l = some (y9x l) := by
 unfold YZ Vw y9x
 refine zL (step := Zg _) (fun (i s : Int) => (s, l, (l.length : Int), i)) (fun s => some s) ZB y4O l (by omega) (fun _ _ => True) ?_ ?_ 0 trivial
 ·intro again i s h0 h1 _
  have hw : Go.IntKind.wrap .i64 (i + 1) = i + 1 := w64 (by omega) (by omega)
  refine ⟨?_, trivial⟩
  unfold Zg y4O
  obtain ⟨⟨x1, x2, x3⟩, hx⟩ : ∃ x, yA l i = x := ⟨_, rfl⟩
  have hx' : l.getD i.toNat ZB = (x1, x2, x3) := hx
  rw [hx']
  simp only [Bool.cond_eq_ite, decide_eq_true_eq, h0, h1, if_true, hw, hx]
  cases x2 <;> rfl
 ·intro again i s hi
  unfold Zg
  simp only [Bool.cond_eq_ite, decide_eq_true_eq, if_neg hi]
def VS (l : List yb) (i gen : Int) : Int × Bool :=
 if inR i 0 ((l.length : Int) - 1) && ((l.getD i.toNat ZB).2.1 && ((l.getD i.toNat ZB).1 == gen)) then ((l.getD i.toNat ZB).2.2, true) else (0, false)
theorem y1i (l : List yb) (i gen : Int) (hl : l.length ≤ 1048576) : JJ (l, i, gen) = some (VS l i gen) := by
 unfold JJ VS
 have hm : Go.IntKind.wrap .i64 ((l.length : Int) - 1) = (l.length : Int) - 1 := w64 (by omega) (by omega)
 obtain ⟨⟨x1, x2, x3⟩, hx⟩ : ∃ x, yA l i = x := ⟨_, rfl⟩
 have hx' : l.getD i.toNat ZB = (x1, x2, x3) := hx
 rw [hx']
 simp only [hm, hx, Zy, Option.bind_some]
 by_cases hr : inR i 0 ((l.length : Int) - 1) = true
 ·obtain ⟨h0, h1⟩ := jS.1 hr
  rw [hr, if_pos h0, if_pos (by omega), if_pos h0, if_pos (by omega), if_pos h0, if_pos (by omega)]
  by_cases hg : x1 = gen
  ·have g1 : (x1 != gen) = false := by simp [hg]
   have g2 : (x1 == gen) = true := by simp [hg]
   rw [g1, g2]
   cases x2 <;> rfl
  ·have g1 : (x1 != gen) = true := by simpa using hg
   have g2 : (x1 == gen) = false := by simpa using hg
   rw [g1, g2]
   cases x2 <;> rfl
 ·have : inR i 0 ((l.length : Int) - 1) = false := by simpa using hr
  rw [this]
  rfl
theorem y5q (l : List yb) (i gen : Int) (hl : l.length ≤ 1048576) : k8 (l, i, gen) = some (VS l i gen) := by
 rw [← y1i l i gen hl]
 unfold k8 JJ
 simp only [jI, Zy]
end Go.Proofs.YthgdjjdigalckaaGreat.Pl
namespace Go.Proofs.YthgdjjdigalckaaGreat.Pl
open Go.Proofs.YthgdjjdigalckaaGreat.R Go.Proofs.YthgdjjdigalckaaGreat.XC
theorem y8n {A : Type} (p : A → Bool) : ∀ (l : List A) (i j : Int), 0 ≤ i → decide (0 ≤ Zn p l i) = Yl (fun _ a => p a) l j
 | [], i, j, _ => rfl
 | a :: l, i, j, h => by
  rw [Zn, Yl, ← y8n p l (i + 1) (j + 1) (by omega)]
  cases p a with
  | true => simp [h]
  | false => rfl
theorem y9y {A : Type} (da : A) (l : List A) (i j : Int) (h0 : 0 ≤ j) (h : j < i) : (l.take i.toNat).getD j.toNat da = l.getD j.toNat da := by
 rw [List.getD_eq_getElem?_getD, List.getD_eq_getElem?_getD, List.getElem?_take, if_pos (by omega)]
theorem ycr {A : Type} (l : List A) (i : Int) (h0 : 0 ≤ i) (h : i ≤ (l.length : Int)) : ((l.take i.toNat).length : Int) = i := by
 rw [List.length_take]
 omega
def kq (age : Int) (_ : Int) (u : yl) : Bool := u.2.1 == age
def yhr (vs : List yl) (l : List yd) (i : Int) (v : yl) : Bool :=
 !jZ v.1 || (!inR v.2.2.1 1 12 || (decide (zZ l v.2.1 < 0) || (decide (((zE l v.2.1).length : Int) > 0) || ((decide (0 < i) && !Go.Op.bytesLess (ByteArray.toList (vs.getD (i - 1).toNat w8).1) (ByteArray.toList v.1)) || Yl (kq v.2.1) (vs.take i.toNat) 0))))
def Vb (vs : List yl) (l : List yd) : Bool := !Yl (yhr vs l) vs 0 && decide ((vs.length : Int) ≤ 6)
theorem y4P {R : Type} (k0 : (Bool × Int × List ye × List y8 × List yd × List yb × List yl × Int) → Option R) (k1 : (Int × List ye × List y8 × List yd × List yb × List yl × Int) → Option R) (i : Int) (q : List Int) (t : List y8) (l : List yd) (cs : List yb) (vs : List yl) (z : Int) (v1 : ByteArray) (v2 v3 : Int) (v4 : Bool) (h0 : 0 ≤ i) (h1 : i ≤ (vs.length : Int)) (hv : vs.length ≤ 1048576) :
  KM k0 k1 (i, 0, q, t, l, cs, vs, z, v1, v2, v3, v4) = if Yl (kq v2) (vs.take i.toNat) 0 = true then k0 (false, i, q, t, l, cs, vs, z) else k1 (i, q, t, l, cs, vs, z) := by
 unfold KM
 have hlen := ycr vs i h0 h1
 refine zD (step := jv k0 k1) (fun k => (i, k, q, t, l, cs, vs, z, v1, v2, v3, v4)) (kq v2) _ _ w8 (vs.take i.toNat) (by omega) ?_ ?_
 ·intro again k hk0 hk1
  rw [hlen] at hk1
  have hw : Go.IntKind.wrap .i64 (k + 1) = k + 1 := w64 (by omega) (by omega)
  have hk2 : k < (vs.length : Int) := by omega
  unfold jv kq
  rw [y9y w8 vs i k hk0 hk1]
  have hx : vs.getD k.toNat w8 = yq vs k := rfl
  rw [hx]
  simp only [Bool.cond_eq_ite, decide_eq_true_eq, hk0, hk1, hk2, if_true, hw]
 ·intro again k hk
  rw [hlen] at hk
  unfold jv
  simp only [Bool.cond_eq_ite, decide_eq_true_eq, if_neg hk]
theorem y9z (q : List Int) (t : List y8) (l : List yd) (cs : List yb) (vs : List yl) (z : Int) (hl : l.length ≤ 1048576) (hv : vs.length ≤ 1048576) (hvn : ∀ v ∈ vs, ByteArray.size v.1 ≤ maxLen) : wh (q, t, l, cs, vs, z) = some (Vb vs l) := by
 unfold wh Qb Vb
 refine (zD (step := jw _ _) (fun i => (i, q, t, l, cs, vs, z)) (yhr vs l) (some false) (some (decide ((vs.length : Int) ≤ 6))) w8 vs (by omega) ?_ ?_).trans ?_
 ·intro again i h0 h1
  have hw : Go.IntKind.wrap .i64 (i + 1) = i + 1 := w64 (by omega) (by omega)
  have hm : Go.IntKind.wrap .i64 (i - 1) = i - 1 := w64 (by omega) (by omega)
  have hmem := hvn _ (zg w8 vs i h0 h1)
  unfold jw yhr
  obtain ⟨⟨x1, x2, x3, x4⟩, hx⟩ : ∃ x, yq vs i = x := ⟨_, rfl⟩
  have hx' : vs.getD i.toNat w8 = (x1, x2, x3, x4) := hx
  have hy : vs.getD (i - 1).toNat w8 = yq vs (i - 1) := rfl
  rw [hx'] at hmem
  rw [hx', hy]
  have e1 := wy x1 hmem
  have e2 := Zo l x2 (by omega)
  have e3 := Ko l x2 hl
  simp only [Bool.cond_eq_ite, decide_eq_true_eq, h0, h1, if_true, hw, hm, hx, Zy, e1, e2, e3, y4P _ _ i q t l cs vs z x1 x2 x3 x4 h0 (by omega) hv, Option.bind_some, gt_iff_lt]
  cases jZ x1
  ·rfl
  by_cases h5 : 0 < i
  ·have h3 : 0 ≤ i - 1 := by omega
   have h4 : i - 1 < (vs.length : Int) := by omega
   simp only [h5, h3, h4, if_true, decide_true]
   by_cases ha : zZ l x2 < 0 <;> by_cases hk : (0 : Int) < ((zE l x2).length : Int) <;> simp only [ha, hk, if_true, if_false, decide_true, decide_false] <;> cases Go.Op.bytesLess (ByteArray.toList (yq vs (i - 1)).1) (ByteArray.toList x1) <;> cases inR x3 1 12 <;> cases Yl (kq x2) (vs.take i.toNat) 0 <;> rfl
  ·simp only [h5, if_false, decide_false]
   by_cases ha : zZ l x2 < 0 <;> by_cases hk : (0 : Int) < ((zE l x2).length : Int) <;> simp only [ha, hk, if_true, if_false, decide_true, decide_false] <;> cases inR x3 1 12 <;> cases Yl (kq x2) (vs.take i.toNat) 0 <;> rfl
 ·intro again i hi
  unfold jw
  simp only [Bool.cond_eq_ite, decide_eq_true_eq, if_neg hi]
 ·cases Yl (yhr vs l) vs 0 <;> rfl
theorem ybp (l : List yl) (v1 : ByteArray) (v2 v3 : Int) (v4 : Bool) (hl : l.length ≤ 1048576) : yG (l, v1, v2, v3, v4) = some (Yl (kq v2) l 0, v1, v2, v3, v4) := by
 have key : yV (l, v1, v2, v3, v4) = some (Zn (fun u : yl => u.2.1 == v2) l 0, v1, v2, v3, v4) := by
  unfold yV Yh
  refine (YQ (step := yQ _ _) (fun i => (l, (l.length : Int), i, v1, v2, v3, v4)) (fun u : yl => u.2.1 == v2) (fun x => some (x, v1, v2, v3, v4)) (some (-1, v1, v2, v3, v4)) w8 l (by omega) ?_ ?_).trans ?_
  ·intro again i h0 h1
   have hw : Go.IntKind.wrap .i64 (i + 1) = i + 1 := w64 (by omega) (by omega)
   unfold yQ WZ
   simp only [Bool.cond_eq_ite, decide_eq_true_eq, h0, h1, if_true, hw, Option.bind_some]
   rfl
  ·intro again i hi
   unfold yQ
   simp only [Bool.cond_eq_ite, decide_eq_true_eq, if_neg hi]
  ·rcases K9 (fun u : yl => u.2.1 == v2) w8 l 0 (Int.le_refl _) with h | ⟨h1, h2, h3⟩
   ·rw [h]
    rfl
   ·rw [if_neg (by omega)]
 unfold yG
 rw [key]
 simp only [Option.bind_some, ge_iff_le]
 rw [y8n _ l 0 0 (Int.le_refl _)]
 rfl
theorem y9A (q : List Int) (t : List y8) (l : List yd) (cs : List yb) (vs : List yl) (z : Int) (hl : l.length ≤ 1048576) (hv : vs.length ≤ 1048576) (hvn : ∀ v ∈ vs, ByteArray.size v.1 ≤ maxLen) : k6 (q, t, l, cs, vs, z) = some (Vb vs l) := by
 unfold k6 y0d Vb
 refine (zD (step := Jv _ _) (fun i => (vs, (vs.length : Int), i, q, t, l, cs, vs, z)) (yhr vs l) (some false) (some (decide ((vs.length : Int) ≤ 6))) w8 vs (by omega) ?_ ?_).trans ?_
 ·intro again i h0 h1
  have hw : Go.IntKind.wrap .i64 (i + 1) = i + 1 := w64 (by omega) (by omega)
  have hm : Go.IntKind.wrap .i64 (i - 1) = i - 1 := w64 (by omega) (by omega)
  have hmem := hvn _ (zg w8 vs i h0 h1)
  unfold Jv yhr
  obtain ⟨⟨x1, x2, x3, x4⟩, hx⟩ : ∃ x, yq vs i = x := ⟨_, rfl⟩
  have hx' : vs.getD i.toNat w8 = (x1, x2, x3, x4) := hx
  have hy : vs.getD (i - 1).toNat w8 = yq vs (i - 1) := rfl
  rw [hx'] at hmem
  rw [hx', hy]
  have e1 := y5p x1 hmem
  have e2 := kp l x2 (by omega)
  have e3 := Kp l x2 hl
  have e4 : yG (List.drop (Int.toNat (0 : Int)) (List.take (Int.toNat i) vs), x1, x2, x3, x4) = some (Yl (kq x2) (vs.take i.toNat) 0, x1, x2, x3, x4) := ybp (vs.take i.toNat) x1 x2 x3 x4 (by simp only [List.length_take]; omega)
  have h2 : i ≤ (vs.length : Int) := by omega
  simp only [Bool.cond_eq_ite, decide_eq_true_eq, h0, h1, h2, if_true, hw, hm, hx, jI, e1, e2, e3, e4, Option.bind_some, gt_iff_lt, Int.le_refl]
  cases jZ x1
  ·rfl
  by_cases h5 : 0 < i
  ·have h3 : 0 ≤ i - 1 := by omega
   have h4 : i - 1 < (vs.length : Int) := by omega
   simp only [h5, h3, h4, if_true, decide_true]
   by_cases ha : zZ l x2 < 0 <;> by_cases hk : (0 : Int) < ((zE l x2).length : Int) <;> simp only [ha, hk, if_true, if_false, decide_true, decide_false] <;> cases Go.Op.bytesLess (ByteArray.toList (yq vs (i - 1)).1) (ByteArray.toList x1) <;> cases inR x3 1 12 <;> cases Yl (kq x2) (vs.take i.toNat) 0 <;> rfl
  ·simp only [h5, if_false, decide_false]
   by_cases ha : zZ l x2 < 0 <;> by_cases hk : (0 : Int) < ((zE l x2).length : Int) <;> simp only [ha, hk, if_true, if_false, decide_true, decide_false] <;> cases inR x3 1 12 <;> cases Yl (kq x2) (vs.take i.toNat) 0 <;> rfl
 ·intro again i hi
  unfold Jv
  simp only [Bool.cond_eq_ite, decide_eq_true_eq, if_neg hi]
 ·cases Yl (yhr vs l) vs 0 <;> rfl
end Go.Proofs.YthgdjjdigalckaaGreat.Pl
namespace Go.Proofs.YthgdjjdigalckaaGreat.Pl
open Go.Proofs.YthgdjjdigalckaaGreat.R Go.Proofs.YthgdjjdigalckaaGreat.XC
def JD (c : Int) (_ : Int) (u : y9) : Bool := (u.2.2.1 == 1) && (u.2.2.2.1 == c)
def yfD (ks : List y9) (l : List yd) (cs : List yb) (i : Int) (a : y9) : Bool :=
 decide (zZ l a.2.1 < 0) || ((a.2.2.1 == 1) && (!(VS cs a.2.2.2.1 a.2.2.2.2).2 || Yl (JD a.2.2.2.1) (ks.take i.toNat) 0))
def y69 (n : Int) (a : y9) : Int := if (a.2.2.1 == 1) = true then Go.IntKind.wrap .i64 (n + 1) else n
def qY (ks : List y9) (l : List yd) (cs : List yb) : Bool := !Yl (yfD ks l cs) ks 0 && (ks.foldl y69 0 == y9x cs)
theorem y4Q {R : Type} (k0 : (Bool × Int × Int × List ye × List y8 × List yd × List yb × List yl × Int × List y9) → Option R) (k1 : (Int × Int × List ye × List y8 × List yd × List yb × List yl × Int × List y9) → Option R) (n i : Int) (q : List Int) (t : List y8) (l : List yd) (cs : List yb) (vs : List yl) (z : Int) (ks : List y9) (h0 : 0 ≤ i) (h1 : i < (ks.length : Int)) (hk : ks.length ≤ 1048576) :
  kP k0 k1 (n, i, 0, q, t, l, cs, vs, z, ks) = if Yl (JD (y0 ks i).2.2.2.1) (ks.take i.toNat) 0 = true then k0 (false, n, i, q, t, l, cs, vs, z, ks) else k1 (n, i, q, t, l, cs, vs, z, ks) := by
 unfold kP
 have hlen := ycr ks i h0 (by omega)
 refine zD (step := ZN k0 k1) (fun k => (n, i, k, q, t, l, cs, vs, z, ks)) (JD (y0 ks i).2.2.2.1) _ _ z6 (ks.take i.toNat) (by omega) ?_ ?_
 ·intro again k hk0 hk1
  rw [hlen] at hk1
  have hw : Go.IntKind.wrap .i64 (k + 1) = k + 1 := w64 (by omega) (by omega)
  have hk2 : k < (ks.length : Int) := by omega
  unfold ZN JD
  rw [y9y z6 ks i k hk0 hk1]
  have hx : ks.getD k.toNat z6 = y0 ks k := rfl
  rw [hx]
  simp only [Bool.cond_eq_ite, decide_eq_true_eq, hk0, hk1, hk2, h0, h1, if_true, hw]
  cases ((y0 ks k).2.2.1 == 1) <;> cases ((y0 ks k).2.2.2.1 == (y0 ks i).2.2.2.1) <;> rfl
 ·intro again k hk
  rw [hlen] at hk
  unfold ZN
  simp only [Bool.cond_eq_ite, decide_eq_true_eq, if_neg hk]
theorem y4R (q : List Int) (t : List y8) (l : List yd) (cs : List yb) (vs : List yl) (z : Int) (ht : TOk t) (hl : l.length ≤ 1048576) (hc : cs.length ≤ 1048576) : wi (q, t, l, cs, vs, z) = some (qY (zb t) l cs) := by
 unfold wi Qc qY
 have hk := ht.keys
 have e : yu (q, t) = some (zb t) := zz q t (by have := ht.len; omega) ht.nodes ht.sum
 simp only [e, Option.bind_some]
 generalize zb t = ks at hk
 refine (y44 (step := jx _ _) (fun (i n : Int) => (n, i, q, t, l, cs, vs, z, ks)) (yfD ks l cs) y69 (some false) (fun n => some (n == y9x cs)) z6 ks (by omega) ?_ ?_ 0).trans ?_
 ·intro again i n h0 h1
  have hw : Go.IntKind.wrap .i64 (i + 1) = i + 1 := w64 (by omega) (by omega)
  unfold jx yfD y69
  have hin := fun (k0 : (Bool × Int × Int × List ye × List y8 × List yd × List yb × List yl × Int × List y9) → Option Bool) k1 m => y4Q k0 k1 m i q t l cs vs z ks h0 h1 hk
  obtain ⟨⟨x1, x2, x3, x4, x5⟩, hx⟩ : ∃ x, y0 ks i = x := ⟨_, rfl⟩
  have hx' : ks.getD i.toNat z6 = (x1, x2, x3, x4, x5) := hx
  rw [hx']
  rw [hx] at hin
  have e1 := Zo l x2 (by omega)
  have e2 := y1i cs x4 x5 hc
  simp only [Bool.cond_eq_ite, decide_eq_true_eq, h0, h1, if_true, hw, hx, e1, e2, hin, Option.bind_some]
  by_cases ha : zZ l x2 < 0
  ·simp only [ha, if_true, decide_true, Bool.true_or]
  ·simp only [ha, if_false, decide_false, Bool.false_or]
   by_cases h3 : x3 = 1
   ·have g1 : (x3 == 1) = true := by simp [h3]
    have g2 : (x3 != 1) = false := by simp [h3]
    rw [g1, g2]
    cases (VS cs x4 x5).2 <;> cases Yl (JD x4) (ks.take i.toNat) 0 <;> rfl
   ·have g1 : (x3 == 1) = false := by simpa using h3
    have g2 : (x3 != 1) = true := by simpa using h3
    rw [g1, g2]
    rfl
 ·intro again i n hi
  unfold jx
  simp only [Bool.cond_eq_ite, decide_eq_true_eq, if_neg hi, y31 cs hc, Option.bind_some]
 ·cases Yl (yfD ks l cs) ks 0 <;> rfl
theorem ycs (c : Int) : ∀ (l : List y9) (i : Int) (j : Nat), j < l.length → Yl (JD c) (l.take (j + 1)) i = (Yl (JD c) (l.take j) i || JD c 0 (l.getD j z6))
 | a :: l, i, 0, _ => by simp [Yl, JD]
 | a :: l, i, j + 1, h => by
  have := ycs c l (i + 1) j (by simpa using h)
  rw [List.take_succ_cons, Yl, this, List.take_succ_cons, Yl, List.getD_cons_succ, Bool.or_assoc]
def ydl (s : Int × List Bool) (a : y9) : Int × List Bool := (y69 s.1 a, if (a.2.2.1 == 1) = true then s.2.set a.2.2.2.1.toNat true else s.2)
theorem yjg : ∀ (l : List y9) (s : Int × List Bool), (l.foldl ydl s).1 = l.foldl y69 s.1
 | [], _ => rfl
 | a :: l, s => yjg l (ydl s a)
theorem y4S (q : List Int) (t : List y8) (l : List yd) (cs : List yb) (vs : List yl) (z : Int) (ht : TOk t) (hl : l.length ≤ 1048576) (hc : cs.length = 24) : wq (q, t, l, cs, vs, z) = some (qY (zb t) l cs) := by
 unfold wq Qi qY
 have hk := ht.keys
 have e : yS (q, t) = some (zb t) := Z1 q t (by have := ht.len; omega) ht.nodes ht.sum
 rw [if_pos (by omega), if_pos (Int.le_refl _), if_pos (by omega)]
 simp only [e, Option.bind_some]
 generalize zb t = ks at hk
 refine (y4K (step := jC _ _) (fun (i : Int) (s : Int × List Bool) => (s.1, (ks.length : Int), i, q, t, l, cs, vs, z, s.2, ks)) (fun i s a => if yfD ks l cs i a = true then .error (some false) else .ok (ydl s a)) (fun s => some (s.1 == y9x cs)) z6 ks (by omega) (fun j s => s.2.length = 24 ∧ ∀ c : Nat, c < 24 → s.2.getD c false = Yl (JD (c : Int)) (ks.take j) 0) ?_ ?_ 0 (Int.le_refl _) (0, List.replicate (Int.toNat 24) yee) ⟨rfl, fun c hc => ?_⟩).trans ?_
 ·rintro again i ⟨n, tk⟩ h0 h1 ⟨hI1, hI2⟩
  simp only at hI1 hI2
  have hw : Go.IntKind.wrap .i64 (i + 1) = i + 1 := w64 (by omega) (by omega)
  obtain ⟨⟨x1, x2, x3, x4, x5⟩, hx⟩ : ∃ x, y0 ks i = x := ⟨_, rfl⟩
  have hx' : ks.getD i.toNat z6 = (x1, x2, x3, x4, x5) := hx
  have hgd : ks.getD i.toNat z6 = ks.getD i.toNat z6 := rfl
  have e1 := kp l x2 (by omega)
  have e2 := y5q cs x4 x5 (by omega)
  have hcell : (VS cs x4 x5).2 = true → 0 ≤ x4 ∧ x4 < 24 := fun h => by
   unfold VS at h
   split at h
   ·rename_i hh
    simp only [Bool.and_eq_true] at hh
    have := jS.1 hh.1
    omega
   ·cases h
  rw [hx']
  refine ⟨?_, fun s' hs' => ?_⟩
  ·unfold jC yfD ydl y69
   simp only [Bool.cond_eq_ite, decide_eq_true_eq, h0, h1, if_true, hw, hx, e1, e2, Option.bind_some]
   by_cases ha : zZ l x2 < 0
   ·simp only [ha, if_true, decide_true, Bool.true_or]
   ·simp only [ha, if_false, decide_false, Bool.false_or]
    by_cases h3 : x3 = 1
    ·have g1 : (x3 == 1) = true := by simp [h3]
     have g2 : (x3 != 1) = false := by simp [h3]
     rw [g1, g2]
     cases hok : (VS cs x4 x5).2 with
     | false => rfl
     | true =>
      obtain ⟨b0, b1⟩ := hcell hok
      have b2 : x4 < (tk.length : Int) := by omega
      have hrd : yef tk x4 = Yl (JD x4) (ks.take i.toNat) 0 := by
       have := hI2 x4.toNat (by omega)
       rw [show ((x4.toNat : Nat) : Int) = x4 by omega] at this
       exact this
      simp only [b0, b2, if_true, hrd]
      cases Yl (JD x4) (ks.take i.toNat) 0 <;> rfl
    ·have g1 : (x3 == 1) = false := by simpa using h3
     have g2 : (x3 != 1) = true := by simpa using h3
     rw [g1, g2]
     rfl
  ·by_cases hb : yfD ks l cs i (x1, x2, x3, x4, x5) = true
   ·rw [if_pos hb] at hs'
    cases hs'
   ·rw [if_neg hb] at hs'
    injection hs' with hs'
    subst hs'
    have hsucc : ∀ c : Int, Yl (JD c) (ks.take (i.toNat + 1)) 0 = (Yl (JD c) (ks.take i.toNat) 0 || JD c 0 (x1, x2, x3, x4, x5)) := fun c => by
     rw [ycs c ks 0 i.toNat (by omega), hx']
    unfold ydl
    simp only
    by_cases h3 : x3 = 1
    ·have g1 : (x3 == 1) = true := by simp [h3]
     simp only [g1, if_true]
     have hok : (VS cs x4 x5).2 = true := by
      unfold yfD at hb
      simp only [g1] at hb
      cases hh : (VS cs x4 x5).2 with
      | true => rfl
      | false =>
       rw [hh] at hb
       simp at hb
     obtain ⟨b0, b1⟩ := hcell hok
     refine ⟨by simpa using hI1, fun c hc => ?_⟩
     rw [hsucc, ← hI2 c hc]
     unfold JD
     simp only [g1, Bool.true_and]
     rw [List.getD_eq_getElem?_getD, List.getD_eq_getElem?_getD]
     by_cases hcx : c = x4.toNat
     ·rw [← hcx, List.getElem?_set_self (by omega)]
      have : (x4 == (c : Int)) = true := by
       simp only [beq_iff_eq]
       omega
      rw [this]
      simp
     ·rw [List.getElem?_set_ne (fun h => hcx h.symm)]
      have : (x4 == (c : Int)) = false := by
       simp only [beq_eq_false_iff_ne, ne_eq]
       omega
      rw [this]
      simp
    ·have g1 : (x3 == 1) = false := by simpa using h3
     simp only [g1, Bool.false_eq_true, if_false]
     refine ⟨hI1, fun c hc => ?_⟩
     rw [hsucc, ← hI2 c hc]
     unfold JD
     simp only [g1, Bool.false_and, Bool.or_false]
 ·rintro again i ⟨n, tk⟩ hi
  unfold jC
  simp only [Bool.cond_eq_ite, decide_eq_true_eq, if_neg hi, y32 cs (by omega), Option.bind_some]
  rw [Bool.beq_comm]
 ·show (List.replicate 24 false).getD c false = _
  rw [List.getD_eq_getElem?_getD, List.getElem?_replicate]
  simp [Yl, hc]
 ·have := y43 (yfD ks l cs) ydl (some false) (fun s : Int × List Bool => some (s.1 == y9x cs)) ks 0 (0, List.replicate (Int.toNat 24) yee)
  rw [show (0 : Int).toNat = 0 from rfl, List.drop_zero, this, yjg]
  cases Yl (yfD ks l cs) ks 0 <;> rfl
def y1x (z : Int) (_ : Int) (a : yd) : Bool := decide (a.1 ≥ z)
def zk (q : List Int) (t : List y8) (l : List yd) (cs : List yb) (vs : List yl) (z : Int) : Bool :=
 YR q t && (wP l && (YS cs && (inR z 1 61 && (!Yl (y1x z) l 0 && (Vb vs l && qY (zb t) l cs)))))
theorem VT (q : List Int) (t : List y8) (l : List yd) (cs : List yb) (vs : List yl) (z : Int) (ht : TOk t) (hl : l.length ≤ 1048576) (hc : cs.length ≤ 1048576) (hv : vs.length ≤ 1048576) (hvn : ∀ v ∈ vs, ByteArray.size v.1 ≤ maxLen) : yH (q, t, l, cs, vs, z) = some (zk q t l cs vs z) := by
 unfold yH QR zk
 refine (zD (step := Jg _ _) (fun i => (i, q, t, l, cs, vs, z)) (y1x z) (some false) (some (YR q t && (wP l && (YS cs && (inR z 1 61 && (Vb vs l && qY (zb t) l cs)))))) Y0 l (by omega) ?_ ?_).trans ?_
 ·intro again i h0 h1
  have hw : Go.IntKind.wrap .i64 (i + 1) = i + 1 := w64 (by omega) (by omega)
  unfold Jg y1x
  have hx : l.getD i.toNat Y0 = yC l i := rfl
  rw [hx]
  simp only [Bool.cond_eq_ite, decide_eq_true_eq, h0, h1, if_true, hw]
 ·intro again i hi
  unfold Jg
  simp only [Bool.cond_eq_ite, decide_eq_true_eq, if_neg hi, VQ q t ht, Kn l hl, Va cs hc, Zy, y9z q t l cs vs z hl hv hvn, y4R q t l cs vs z ht hl hc, Option.bind_some]
  cases YR q t <;> cases wP l <;> cases YS cs <;> cases inR z 1 61 <;> cases Vb vs l <;> rfl
 ·cases Yl (y1x z) l 0 <;> cases YR q t <;> cases wP l <;> cases YS cs <;> cases inR z 1 61 <;> rfl
theorem VU (q : List Int) (t : List y8) (l : List yd) (cs : List yb) (vs : List yl) (z : Int) (ht : TOk t) (hl : l.length ≤ 1048576) (hc : cs.length ≤ 1048576) (hv : vs.length ≤ 1048576) (hvn : ∀ v ∈ vs, ByteArray.size v.1 ≤ maxLen) : Yc (q, t, l, cs, vs, z) = some (zk q t l cs vs z) := by
 unfold Yc zk
 simp only [VR q t ht, y1h l hl, y0s cs hc, jI, Option.bind_some]
 cases YR q t
 ·rfl
 cases wP l
 ·rfl
 cases hcc : YS cs
 ·rfl
 cases inR z 1 61
 ·rfl
 have hc24 : cs.length = 24 := by
  unfold YS at hcc
  simp only [Bool.and_eq_true, beq_iff_eq] at hcc
  omega
 simp only [Bool.not_true, cond_false, Option.bind_some, Bool.true_and]
 unfold y0e
 refine (zD (step := Jw _ _) (fun i => (l, (l.length : Int), i, q, t, l, cs, vs, z)) (y1x z) (some false) (some (Vb vs l && qY (zb t) l cs)) Y0 l (by omega) ?_ ?_).trans ?_
 ·intro again i h0 h1
  have hw : Go.IntKind.wrap .i64 (i + 1) = i + 1 := w64 (by omega) (by omega)
  unfold Jw y1x
  have hx : l.getD i.toNat Y0 = yC l i := rfl
  rw [hx]
  simp only [Bool.cond_eq_ite, decide_eq_true_eq, h0, h1, if_true, hw]
 ·intro again i hi
  unfold Jw
  simp only [Bool.cond_eq_ite, decide_eq_true_eq, if_neg hi, y9A q t l cs vs z hl hv hvn, y4S q t l cs vs z ht hl hc24, Option.bind_some]
  cases Vb vs l <;> rfl
 ·cases Yl (y1x z) l 0 <;> rfl
end Go.Proofs.YthgdjjdigalckaaGreat.Pl
namespace Go.Proofs.YthgdjjdigalckaaGreat.Pl
open Go.Proofs.YthgdjjdigalckaaGreat.R Go.Proofs.YthgdjjdigalckaaGreat.XC
theorem y2C {A : Type} (p : Int → A → Bool) : ∀ (l : List A) (i : Int), Yl p l i = false → ∀ a ∈ l, ∃ j, p j a = false
 | [], _, _, a, h => by simp at h
 | b :: l, i, h, a, ha => by
  simp only [Yl, Bool.or_eq_false_iff] at h
  rcases List.mem_cons.1 ha with rfl | ha
  ·exact ⟨i, h.1⟩
  ·exact y2C p l (i + 1) h.2 a ha
theorem y8o {s : List y9} (h : Qn s = true) : s.length ≤ 60 ∧ ∀ k ∈ s, w3 k = true := by
 unfold Qn at h
 simp only [Bool.and_eq_true, Bool.not_eq_true', decide_eq_true_eq] at h
 refine ⟨by omega, fun k hk => ?_⟩
 obtain ⟨j, hj⟩ := y2C _ s 0 h.1 k hk
 simpa using hj
theorem y4T {n : List ya} (h : Ym n = true) : n.length ≤ 3 ∧ ∀ s ∈ n, Qn s = true := by
 unfold Ym at h
 simp only [Bool.and_eq_true, Bool.not_eq_true', decide_eq_true_eq] at h
 refine ⟨by omega, fun s hs => ?_⟩
 obtain ⟨j, hj⟩ := y2C _ n 0 h.1 s hs
 unfold y26 at hj
 simp only [Bool.or_eq_false_iff, Bool.not_eq_false'] at hj
 exact hj.1
theorem wz {q : List Int} {t : List y8} (h : YR q t = true) : q.length = t.length ∧ 1 ≤ t.length ∧ t.length ≤ 20 ∧ ∀ n ∈ t, Ym n = true := by
 unfold YR at h
 simp only [Bool.and_eq_true, Bool.not_eq_true', decide_eq_true_eq, jS] at h
 obtain ⟨h1, h2, _, h3, _⟩ := h
 refine ⟨h2, by omega, by omega, fun n hn => ?_⟩
 obtain ⟨j, hj⟩ := y2C _ t 0 h3 n hn
 unfold y0q at hj
 simp only [Bool.or_eq_false_iff, Bool.not_eq_false'] at hj
 have h4 := hj.2
 unfold ybn at h4
 simp only [Bool.and_eq_true] at h4
 exact h4.1
end Go.Proofs.YthgdjjdigalckaaGreat.Pl
namespace Go.Proofs.YthgdjjdigalckaaGreat.Pl
open Go.Proofs.YthgdjjdigalckaaGreat.R Go.Proofs.YthgdjjdigalckaaGreat.XC
theorem y4U {a b : y9} : qV a b = true ↔ a.1 < b.1 ∨ a.1 = b.1 ∧ a.2.1 < b.2.1 := by
 unfold qV
 by_cases h1 : a.1 < b.1
 ·simp [h1]
 ·by_cases h2 : a.1 = b.1 <;> simp [h1, h2]
theorem y9B {a b : y9} : qW a b = true ↔ a.1 = b.1 ∧ a.2.1 = b.2.1 := by simp [qW]
def srt (l : List y9) : Prop := l.Pairwise fun a b => qV a b = true
def yfd : List y9 → y9 → List y9
 | [], k => [k]
 | c :: r, k => if qV c k = true then c :: yfd r k else k :: (c :: r).filter fun x => !qW x k
theorem yct (k : y9) : ∀ (l o : List y9), l.foldl (jT k) (true, o) = (true, o ++ l.filter fun x => !qW x k)
 | [], o => by simp
 | c :: l, o => by
  rw [List.foldl_cons, List.filter_cons]
  have e : jT k (true, o) c = (true, if qW c k then o else o ++ [c]) := by simp [jT]
  rw [e, yct k l]
  cases qW c k <;> simp
def ymv (k : y9) (r : Bool × List y9) : List y9 := if r.1 then r.2 else r.2 ++ [k]
theorem y9C (k : y9) : ∀ (l o : List y9), ymv k (l.foldl (jT k) (false, o)) = o ++ yfd l k
 | [], o => by simp [yfd, ymv]
 | c :: l, o => by
  rw [List.foldl_cons, yfd]
  cases hl : qV c k with
  | true =>
   have hs : qW c k = false := by
    cases hs : qW c k with
    | false => rfl
    | true =>
     rw [y4U] at hl
     rw [y9B] at hs
     omega
   have e : jT k (false, o) c = (false, o ++ [c]) := by simp [jT, hl, hs]
   rw [e, y9C k l (o ++ [c])]
   simp
  | false =>
   have e : jT k (false, o) c = (true, if qW c k then o ++ [k] else o ++ [k] ++ [c]) := by simp [jT, hl]
   rw [e, yct]
   simp only [ymv, if_true, List.filter_cons, Bool.false_eq_true, if_false]
   cases qW c k <;> simp
theorem y6a (l : List y9) (k : y9) : JZ l k = yfd l k := by
 exact (y9C k l []).trans (List.nil_append _)
theorem y8p {k : y9} : ∀ {l : List y9} {x : y9}, x ∈ yfd l k → x = k ∨ x ∈ l
 | [], x, h => by simpa [yfd] using h
 | c :: r, x, h => by
  rw [yfd] at h
  split at h
  ·rcases List.mem_cons.1 h with rfl | h
   ·exact .inr (by simp)
   ·rcases y8p h with h | h
    ·exact .inl h
    ·exact .inr (by simp [h])
  ·rcases List.mem_cons.1 h with rfl | h
   ·exact .inl rfl
   ·exact .inr (List.mem_filter.1 h).1
theorem ycu (k : y9) : ∀ (l : List y9), srt l → srt (yfd l k)
 | [], _ => by simp [srt, yfd]
 | c :: r, h => by
  obtain ⟨h1, h2⟩ := List.pairwise_cons.1 h
  rw [yfd]
  split
  ·rename_i hl
   refine List.pairwise_cons.2 ⟨fun y hy => ?_, ycu k r h2⟩
   rcases y8p hy with rfl | hy
   ·exact hl
   ·exact h1 y hy
  ·rename_i hl
   refine List.pairwise_cons.2 ⟨fun y hy => ?_, List.Pairwise.filter _ h⟩
   obtain ⟨hy, hs⟩ := List.mem_filter.1 hy
   have hs' : ¬ (y.1 = k.1 ∧ y.2.1 = k.2.1) := fun e => by
    rw [y9B.2 e] at hs
    cases hs
   rw [y4U] at hl ⊢
   rcases List.mem_cons.1 hy with rfl | hy
   ·omega
   ·have := y4U.1 (h1 y hy)
    omega
theorem y6b {l : List y9} (k : y9) (h : srt l) : srt (JZ l k) := by rw [y6a]; exact ycu k l h
theorem y6c {l : List y9} {k x : y9} (h : x ∈ JZ l k) : x = k ∨ x ∈ l := by rw [y6a] at h; exact y8p h
theorem y6d : ∀ (b a : List y9), srt a → srt (W5 a b)
 | [], _, h => h
 | c :: b, a, h => y6d b _ (y6b c h)
theorem y6e : ∀ (b a : List y9) {x : y9}, x ∈ W5 a b → x ∈ a ∨ x ∈ b
 | [], _, _, h => .inl h
 | c :: b, a, x, h => by
  rcases y6e b (JZ a c) h with h | h
  ·rcases y6c h with rfl | h
   ·exact .inr (by simp)
   ·exact .inl h
  ·exact .inr (by simp [h])
theorem ycv : ∀ (l s : List y9), l.foldl V8 s = s ++ l.filter fun c => !decide (c.2.2.1 = 0)
 | [], s => by simp
 | c :: l, s => by
  rw [List.foldl_cons, ycv l, List.filter_cons]
  unfold V8
  by_cases h : c.2.2.1 = 0 <;> simp [h]
theorem ycw (l : List y9) : y4H l = l.filter fun c => !decide (c.2.2.1 = 0) := by
 have := ycv l []
 simpa [y4H] using this
theorem y9D {l : List y9} (h : srt l) : srt (y4H l) := by rw [ycw]; exact List.Pairwise.filter _ h
theorem y9E {l : List y9} {x : y9} (h : x ∈ y4H l) : x ∈ l := by rw [ycw] at h; exact (List.mem_filter.1 h).1
theorem y9F : ∀ (n : List ya) (s : List y9), srt s → srt (n.foldl W5 s)
 | [], _, h => h
 | c :: n, s, h => y9F n _ (y6d c s h)
theorem y9G : ∀ (n : List ya) (s : List y9) {x : y9}, x ∈ n.foldl W5 s → x ∈ s ∨ ∃ c ∈ n, x ∈ (show List y9 from c)
 | [], _, _, h => .inl h
 | c :: n, s, x, h => by
  rcases y9G n (W5 s c) h with h | ⟨d, hd, hx⟩
  ·rcases y6e c s h with h | h
   ·exact .inl h
   ·exact .inr ⟨c, by simp, h⟩
  ·exact .inr ⟨d, by simp [hd], hx⟩
theorem yfe (n : List ya) : srt (z4 n) := y9D (y9F n [] List.Pairwise.nil)
theorem yff {n : List ya} {x : y9} (h : x ∈ z4 n) : ∃ c ∈ n, x ∈ (show List y9 from c) := by
 rcases y9G n [] (y9E h) with h | h
 ·cases h
 ·exact h
theorem y28 {A : Type} {p : Int → A → Bool} (da : A) : ∀ (l : List A) (i : Int), (∀ j : Nat, j < l.length → p (i + j) (l.getD j da) = false) → Yl p l i = false
 | [], _, _ => rfl
 | a :: l, i, h => by
  rw [Yl, Bool.or_eq_false_iff]
  refine ⟨by simpa using h 0 (by simp), y28 da l (i + 1) fun j hj => ?_⟩
  have := h (j + 1) (by simpa using hj)
  rw [List.getD_cons_succ] at this
  rw [show i + 1 + (j : Int) = i + ((j + 1 : Nat) : Int) by omega]
  exact this
theorem y0t {A : Type} (da : A) (l : List A) (j : Nat) (h : j < l.length) : l.getD j da = l[j] := by simp [List.getD, h]
theorem yfg {l : List y9} (h : srt l) : Yl (wO l) l 0 = false := by
 refine y28 z6 l 0 fun j hj => ?_
 unfold wO
 cases j with
 | zero => simp
 | succ j =>
  have h2 := List.pairwise_iff_getElem.1 h j (j + 1) (by omega) hj (by omega)
  rw [show ((0 : Int) + ((j + 1 : Nat) : Int) - 1).toNat = j by omega, y0t _ _ _ (by omega), y0t _ _ _ hj, h2]
  simp
theorem yuL {l : List y9} (h : srt l) (hk : ∀ k ∈ l, w3 k = true) (hl : l.length ≤ 60) : Qn l = true := by
 unfold Qn
 rw [yfg h, y28 z6 l 0 fun j hj => by
  rw [y0t _ _ _ hj, hk _ (List.getElem_mem hj)]
  rfl]
 simp
 omega
def zt (l : List y9) : List ya := if l.length = 0 then [] else [l]
theorem ydm {l : List y9} (h : srt l) (hk : ∀ k ∈ l, w3 k = true) (hl : l.length ≤ 8) : Ym (zt l) = true := by
 unfold zt
 split
 ·rfl
 ·rename_i h0
  have h1 := yuL h hk (by omega)
  have h2 : y1g 0 l = (List.length l : Int) := by
   unfold y1g
   rw [w64 (by omega) (by omega)]
   omega
  unfold Ym
  simp only [Yl, y26, h1, Bool.not_true, Bool.false_or, Bool.or_false, List.foldl_cons, List.foldl_nil, h2, List.length_cons, List.length_nil]
  rw [show (((List.length l : Nat) : Int) == 0) = false from beq_eq_false_iff_ne.2 (by omega)]
  simp
  omega
end Go.Proofs.YthgdjjdigalckaaGreat.Pl
namespace Go.Proofs.YthgdjjdigalckaaGreat.Pl
open Go.Proofs.YthgdjjdigalckaaGreat.R Go.Proofs.YthgdjjdigalckaaGreat.XC
theorem y46 {T A R : Type} {step : (T → Option R) → T → Option R} (da : A) (l : List A) (St0 : Int → T) (St1 : Int → List A → T) (k0 : Option R) (k1 : List A → Option R) (hl : l.length ≤ 1099511627776)
  (h0 : ∀ again i, 0 ≤ i → i < ((List.length l : Nat) : Int) → step again (St0 i) = again (St1 (i + 1) [l.getD i.toNat da]))
  (h1 : ∀ again i o, 0 ≤ i → i < ((List.length l : Nat) : Int) → List.length o ≤ List.length l → step again (St1 i o) = again (St1 (i + 1) (o ++ [l.getD i.toNat da])))
  (hd0 : ∀ again i, ¬ i < ((List.length l : Nat) : Int) → step again (St0 i) = k0)
  (hd1 : ∀ again i o, ¬ i < ((List.length l : Nat) : Int) → step again (St1 i o) = k1 o) : zx step zO (St0 0) = if l.length = 0 then k0 else k1 l := by
 have key : ∀ (m : Nat) (i : Int), 0 ≤ i → i ≤ l.length → l.length - i.toNat < m → zx step m (St1 i (l.take i.toNat)) = k1 l := by
  intro m
  induction m with
  | zero => intro i _ _ h; omega
  | succ m ih =>
   intro i i0 i1 hm
   rw [zx]
   by_cases hi : i < ((List.length l : Nat) : Int)
   ·have e1 : (i + 1).toNat = i.toNat + 1 := by omega
    have e2 : l.take i.toNat ++ [l.getD i.toNat da] = l.take (i + 1).toNat := by
     rw [e1, List.take_succ_eq_append_getElem (by omega), y8h da l i i0 hi]
    rw [h1 _ i _ i0 hi (by rw [List.length_take]; omega), e2]
    exact ih (i + 1) (by omega) (by omega) (by omega)
   ·rw [hd1 _ i _ hi, List.take_of_length_le (by omega)]
 have hF : zO = (zO - 1) + 1 := by
  have := y1q
  omega
 rw [hF, zx]
 by_cases h : l.length = 0
 ·rw [if_pos h, hd0 _ 0 (by omega)]
 ·rw [if_neg h, h0 _ 0 (Int.le_refl _) (by omega)]
  have e : [l.getD (0 : Int).toNat da] = l.take (0 + 1 : Int).toNat := by
   cases l with
   | nil => simp at h
   | cons a l => rfl
  rw [e]
  exact key _ _ (by omega) (by omega) (by
   have := y1q
   omega)
theorem yvr {A : Type} (a : A) (k : Nat) (h : k < 140737488355328) : List.length [a] * k < 140737488355328 := by
 simp only [List.length_cons, List.length_nil]
 omega
end Go.Proofs.YthgdjjdigalckaaGreat.Pl
namespace Go.Proofs.YthgdjjdigalckaaGreat.Pl
open Go.Proofs.YthgdjjdigalckaaGreat.R Go.Proofs.YthgdjjdigalckaaGreat.XC
def y3o (n : y8) : Prop := List.length n ≤ 1048576 ∧ ∀ b ∈ (show List ya from n), List.length b ≤ 1048576
theorem VV (n : List ya) (h : y3o n) : zh n = some n := by
 have h1 : n.length ≤ 1048576 := h.1
 have e : zh n = if n.length = 0 then some ([] : List ya) else some n := by
  unfold zh QK
  refine y46 (step := YD _ _) yX n (fun i => Sum.inl (i, n)) (fun i o => Sum.inr (i, n, o)) _ (fun o => some o) (by omega) ?_ ?_ ?_ ?_
  ·intro again i i0 i1
   have hw : Go.IntKind.wrap .i64 (i + 1) = i + 1 := w64 (by omega) (by omega)
   have hr : List.length (yo n i) ≤ 1048576 := h.2 _ (zg yX n i i0 i1)
   simp only [YD, Bool.cond_eq_ite, decide_eq_true_eq, i0, i1, if_true, hw]
   rw [if_pos (by simp only [List.length_nil]; omega), if_pos (yvr _ _ (by decide))]
   rfl
  ·intro again i o i0 i1 i2
   have hw : Go.IntKind.wrap .i64 (i + 1) = i + 1 := w64 (by omega) (by omega)
   have hr : List.length (yo n i) ≤ 1048576 := h.2 _ (zg yX n i i0 i1)
   simp only [YD, Bool.cond_eq_ite, decide_eq_true_eq, i0, i1, if_true, hw]
   rw [if_pos (by simp only [List.length_nil]; omega), if_pos (by simp only [List.length_cons, List.length_nil]; omega)]
   rfl
  ·intro again i hi
   simp only [YD, Bool.cond_eq_ite, decide_eq_true_eq, if_neg hi]
  ·intro again i o hi
   simp only [YD, Bool.cond_eq_ite, decide_eq_true_eq, if_neg hi]
 rw [e]
 split
 ·rename_i h0
  rw [List.length_eq_zero_iff.1 h0]
 ·rfl
theorem KT (l : List y9) (h : l.length ≤ 1048576) : zV l = some l := by
 unfold zV
 rw [if_pos (by simp only [List.length_nil]; omega)]
 rfl
theorem KU (n : List ya) (h : y3o n) : zu n = some n := by
 have h1 : n.length ≤ 1048576 := h.1
 have e : zu n = if n.length = 0 then some ([] : List ya) else some n := by
  unfold zu qy
  refine y46 (step := Y5 _ _) yX n (fun i => Sum.inl (n, ((List.length n : Nat) : Int), i)) (fun i o => Sum.inr (n, ((List.length n : Nat) : Int), i, o)) _ (fun o => some o) (by omega) ?_ ?_ ?_ ?_
  ·intro again i i0 i1
   have hw : Go.IntKind.wrap .i64 (i + 1) = i + 1 := w64 (by omega) (by omega)
   have hr : List.length (yo n i) ≤ 1048576 := h.2 _ (zg yX n i i0 i1)
   simp only [Y5, Bool.cond_eq_ite, decide_eq_true_eq, i0, i1, if_true, hw, KT _ hr, Option.bind_some]
   rw [if_pos (yvr _ _ (by decide))]
   rfl
  ·intro again i o i0 i1 i2
   have hw : Go.IntKind.wrap .i64 (i + 1) = i + 1 := w64 (by omega) (by omega)
   have hr : List.length (yo n i) ≤ 1048576 := h.2 _ (zg yX n i i0 i1)
   simp only [Y5, Bool.cond_eq_ite, decide_eq_true_eq, i0, i1, if_true, hw, KT _ hr, Option.bind_some]
   rw [if_pos (by simp only [List.length_cons, List.length_nil]; omega)]
   rfl
  ·intro again i hi
   simp only [Y5, Bool.cond_eq_ite, decide_eq_true_eq, if_neg hi]
  ·intro again i o hi
   simp only [Y5, Bool.cond_eq_ite, decide_eq_true_eq, if_neg hi]
 rw [e]
 split
 ·rename_i h0
  rw [List.length_eq_zero_iff.1 h0]
 ·rfl
theorem VW (q : List ye) (t : List y8) (hq : q.length ≤ 1048576) (ht : t.length ≤ 1048576) (hn : ∀ n ∈ t, y3o n) : Z3 (q, t) = some (q, t) := by
 have e : Z3 (q, t) = if t.length = 0 then some (q, ([] : List y8)) else some (q, t) := by
  unfold Z3 QL
  simp only [List.length_nil, List.nil_append]
  rw [if_pos (by omega)]
  refine y46 (step := YE _ _) yB t (fun i => Sum.inl (i, q, t, q)) (fun i o => Sum.inr (i, q, t, q, o)) _ (fun o => some (q, o)) (by omega) ?_ ?_ ?_ ?_
  ·intro again i i0 i1
   have hw : Go.IntKind.wrap .i64 (i + 1) = i + 1 := w64 (by omega) (by omega)
   have hr : y3o (yh t i) := hn _ (zg yB t i i0 i1)
   simp only [YE, Bool.cond_eq_ite, decide_eq_true_eq, i0, i1, if_true, hw, VV _ hr, Option.bind_some]
   rw [if_pos (yvr _ _ (by decide))]
   rfl
  ·intro again i o i0 i1 i2
   have hw : Go.IntKind.wrap .i64 (i + 1) = i + 1 := w64 (by omega) (by omega)
   have hr : y3o (yh t i) := hn _ (zg yB t i i0 i1)
   simp only [YE, Bool.cond_eq_ite, decide_eq_true_eq, i0, i1, if_true, hw, VV _ hr, Option.bind_some]
   rw [if_pos (by simp only [List.length_cons, List.length_nil]; omega)]
   rfl
  ·intro again i hi
   simp only [YE, Bool.cond_eq_ite, decide_eq_true_eq, if_neg hi]
  ·intro again i o hi
   simp only [YE, Bool.cond_eq_ite, decide_eq_true_eq, if_neg hi]
 rw [e]
 split
 ·rename_i h0
  rw [List.length_eq_zero_iff.1 h0]
 ·rfl
theorem Qo (l : List ye) (h : l.length ≤ 1048576) : ZY l = some l := by
 unfold ZY
 rw [if_pos (by simp only [List.length_nil]; omega)]
 rfl
theorem Qp (q : List ye) (t : List y8) (hq : q.length ≤ 1048576) (ht : t.length ≤ 1048576) (hn : ∀ n ∈ t, y3o n) : zv (q, t) = some (q, t) := by
 have e : zv (q, t) = if t.length = 0 then some (q, ([] : List y8)) else some (q, t) := by
  unfold zv qz
  simp only [Qo q hq, Option.bind_some]
  refine y46 (step := Y6 _ _) yB t (fun i => Sum.inl (t, ((List.length t : Nat) : Int), i, q)) (fun i o => Sum.inr (t, ((List.length t : Nat) : Int), i, q, o)) _ (fun o => some (q, o)) (by omega) ?_ ?_ ?_ ?_
  ·intro again i i0 i1
   have hw : Go.IntKind.wrap .i64 (i + 1) = i + 1 := w64 (by omega) (by omega)
   have hr : y3o (yh t i) := hn _ (zg yB t i i0 i1)
   simp only [Y6, Bool.cond_eq_ite, decide_eq_true_eq, i0, i1, if_true, hw, KU _ hr, Option.bind_some]
   rw [if_pos (yvr _ _ (by decide))]
   rfl
  ·intro again i o i0 i1 i2
   have hw : Go.IntKind.wrap .i64 (i + 1) = i + 1 := w64 (by omega) (by omega)
   have hr : y3o (yh t i) := hn _ (zg yB t i i0 i1)
   simp only [Y6, Bool.cond_eq_ite, decide_eq_true_eq, i0, i1, if_true, hw, KU _ hr, Option.bind_some]
   rw [if_pos (by simp only [List.length_cons, List.length_nil]; omega)]
   rfl
  ·intro again i hi
   simp only [Y6, Bool.cond_eq_ite, decide_eq_true_eq, if_neg hi]
  ·intro again i o hi
   simp only [Y6, Bool.cond_eq_ite, decide_eq_true_eq, if_neg hi]
 rw [e]
 split
 ·rename_i h0
  rw [List.length_eq_zero_iff.1 h0]
 ·rfl
theorem kr (q : List ye) (t : List y8) (l : List yd) (cs : List yb) (vs : List yl) (z : Int) (h : small q t l cs vs) : ym (q, t, l, cs, vs, z) = some (q, t, l, cs, vs, z) := by
 obtain ⟨h1, h2, h3, h4, h5, h6⟩ := h
 unfold ym Yv
 simp only [VW q t h1 h2 (fun n hn => W6 h3 hn), Option.bind_some, List.length_nil, List.nil_append]
 rw [if_pos (by omega), if_pos (by omega)]
 simp only [Option.bind_some]
 rw [if_pos (by omega)]
theorem Qq (q : List ye) (t : List y8) (l : List yd) (cs : List yb) (vs : List yl) (z : Int) (h : small q t l cs vs) : YP (q, t, l, cs, vs, z) = some (q, t, l, cs, vs, z) := by
 obtain ⟨h1, h2, h3, h4, h5, h6⟩ := h
 unfold YP YO Yk
 simp only [Qp q t h1 h2 (fun n hn => W6 h3 hn), Option.bind_some, List.length_nil, List.nil_append]
 rw [if_pos (by omega)]
 simp only [Option.bind_some]
 rw [if_pos (by omega)]
 simp only [Option.bind_some]
 rw [if_pos (by omega)]
end Go.Proofs.YthgdjjdigalckaaGreat.Pl
namespace Go.Proofs.YthgdjjdigalckaaGreat.Pl
open Go.Proofs.YthgdjjdigalckaaGreat.R Go.Proofs.YthgdjjdigalckaaGreat.XC
def y6f (t : List y8) (l : List yd) (blk id : Int) : Bool × y9 := y0o (VA (zb t) blk) ((y1c l id).drop 1)
theorem ybq (ks : List y9) : y0o ks [] = (false, (0, 0, 0, 0, 0)) := by
 unfold y0o
 induction ks with
 | nil => rfl
 | cons a ks ih =>
  rw [List.foldl_cons, show y1v [] (false, ((0 : Int), (0 : Int), (0 : Int), (0 : Int), (0 : Int))) a = (false, (0, 0, 0, 0, 0)) by
   unfold y1v yms Zn
   simp]
  exact ih
theorem y29 (q : List Int) (t : List y8) (l : List yd) (blk id : Int) (ht : TOk t) (hl : l.length ≤ 1048576) : YX (q, t, l, blk, id) = some (ans (y6f t l blk id)) := by
 unfold YX y6f
 have hp := y0O l id hl
 simp only [y1d l id hl, Option.bind_some]
 generalize y1c l id = p at hp
 cases p with
 | nil =>
  rw [show List.drop 1 ([] : List Int) = [] from rfl, ybq]
  rfl
 | cons a p =>
  have h1 : (((a :: p).length : Int) == 0) = false := by
   simp only [List.length_cons, beq_eq_false_iff_ne, ne_eq]
   omega
  have h2 : (1 : Int) ≤ ((a :: p).length : Int) := by
   simp only [List.length_cons]
   omega
  have e : jm (q, t, blk, List.drop (Int.toNat (1 : Int)) (List.take (Int.toNat ((a :: p).length : Int)) (a :: p))) = some (ans (y0o (VA (zb t) blk) (List.drop 1 (a :: p)))) := by
   rw [show Int.toNat ((a :: p).length : Int) = (a :: p).length by omega, List.take_length]
   exact y30 q t blk _ ht (by simp only [List.length_drop]; omega)
  simp only [h1, cond_false, h2, Int.le_refl, if_true, e, Option.bind_some]
  rw [if_pos (by omega)]
theorem y8q (q : List Int) (t : List y8) (l : List yd) (blk id : Int) (ht : TOk t) (hl : l.length ≤ 1048576) : jD (q, t, l, blk, id) = some (ans (y6f t l blk id)) := by
 unfold jD y6f
 have hp := y0O l id hl
 simp only [y1e l id hl, Option.bind_some]
 generalize y1c l id = p at hp
 have e : jo (q, t, blk, List.drop (Int.toNat (if (p.length : Int) < (1 : Int) then (p.length : Int) else (1 : Int))) (List.take (Int.toNat (p.length : Int)) p)) = some (ans (y0o (VA (zb t) blk) (List.drop 1 p))) := by
  rw [show Int.toNat (p.length : Int) = p.length by omega, List.take_length]
  have : List.drop (Int.toNat (if (p.length : Int) < (1 : Int) then (p.length : Int) else (1 : Int))) p = List.drop 1 p := by
   cases p with
   | nil => rfl
   | cons a p =>
    rw [if_neg (by simp only [List.length_cons]; omega)]
    rfl
  rw [this]
  exact y1f q t blk _ ht (by simp only [List.length_drop]; omega)
 rw [if_pos (by split <;> omega), if_pos (by split <;> omega), if_pos (Int.le_refl _), e]
 rfl
def y2D (vs : List yl) (id : Int) : Bool := !Yl (kq id) vs 0
theorem y0u (q : List Int) (t : List y8) (l : List yd) (cs : List yb) (vs : List yl) (z id : Int) (hv : vs.length ≤ 1048576) : kR (q, t, l, cs, vs, z, id) = some (y2D vs id) := by
 unfold kR y1Z y2D
 refine (zD (step := Wz _ _) (fun i => (id, i, q, t, l, cs, vs, z)) (kq id) (some false) (some true) w8 vs (by omega) ?_ ?_).trans ?_
 ·intro again i h0 h1
  have hw : Go.IntKind.wrap .i64 (i + 1) = i + 1 := w64 (by omega) (by omega)
  unfold Wz kq
  have hx : vs.getD i.toNat w8 = yq vs i := rfl
  rw [hx]
  simp only [Bool.cond_eq_ite, decide_eq_true_eq, h0, h1, if_true, hw]
 ·intro again i hi
  unfold Wz
  simp only [Bool.cond_eq_ite, decide_eq_true_eq, if_neg hi]
 ·cases Yl (kq id) vs 0 <;> rfl
theorem y33 (q : List Int) (t : List y8) (l : List yd) (cs : List yb) (vs : List yl) (z id : Int) (hv : vs.length ≤ 1048576) : kZ (q, t, l, cs, vs, z, id) = some (y2D vs id) := by
 have key : z7 (vs, id) = some (Zn (fun u : yl => u.2.1 == id) vs 0, id) := by
  unfold z7 YC
  refine (YQ (step := yW _ _) (fun i => (vs, (vs.length : Int), i, id)) (fun u : yl => u.2.1 == id) (fun x => some (x, id)) (some (-1, id)) w8 vs (by omega) ?_ ?_).trans ?_
  ·intro again i h0 h1
   have hw : Go.IntKind.wrap .i64 (i + 1) = i + 1 := w64 (by omega) (by omega)
   unfold yW ve
   simp only [Bool.cond_eq_ite, decide_eq_true_eq, h0, h1, if_true, hw, Option.bind_some]
   rfl
  ·intro again i hi
   unfold yW
   simp only [Bool.cond_eq_ite, decide_eq_true_eq, if_neg hi]
  ·rcases K9 (fun u : yl => u.2.1 == id) w8 vs 0 (Int.le_refl _) with h | ⟨h1, h2, h3⟩
   ·rw [h]
    rfl
   ·rw [if_neg (by omega)]
 unfold kZ zi y2D
 rw [key]
 simp only [Option.bind_some, ge_iff_le]
 rw [y8n _ vs 0 0 (Int.le_refl _)]
 rfl
def KG (q : List Int) (sp : Int) : Nat → Int
 | 0 => -1
 | n + 1 => if q.getD n 0 ≤ sp then (n : Int) else KG q sp n
def wA (blk age : Int) : Int := Go.IntKind.wrap .i64 (Go.IntKind.wrap .i64 ((64 : Int) * blk) + age)
theorem y6g (q : List Int) (sp : Int) : ∀ n, -1 ≤ KG q sp n ∧ KG q sp n < n
 | 0 => by simp [KG]
 | n + 1 => by
  have := y6g q sp n
  rw [KG]
  split <;> omega
theorem y0v (q : List Int) (t : List y8) (blk age : Int) (hq : q.length ≤ 1048576) : jM (q, t, blk, age) = some (KG q (wA blk age) q.length) := by
 unfold jM Qd
 have h := Ys (step := wD (fun x2 => some x2)) (fun u : wC => q.length - u.2.2.2.1.toNat) (fun u => ∃ n : Nat, n ≤ q.length ∧ u = (blk, age, KG q (wA blk age) n, (n : Int), q, t)) (fun _ => some (KG q (wA blk age) q.length)) ?_ (blk, age, -1, 0, q, t) ⟨0, by omega, rfl⟩ (by simp; omega)
 ·exact h
 ·rintro again u ⟨n, hn, rfl⟩ hag
  have hw : Go.IntKind.wrap .i64 ((n : Int) + 1) = ((n + 1 : Nat) : Int) := by rw [w64 (by omega) (by omega)]; omega
  unfold wD JH
  have h0 : 0 ≤ (n : Int) := by omega
  by_cases hlt : (n : Int) < (q.length : Int)
  ·have hx : zl q (n : Int) = q.getD n 0 := rfl
   simp only [Bool.cond_eq_ite, decide_eq_true_eq, hlt, h0, if_true, Option.bind_some, hw, hx]
   have e := hag (blk, age, KG q (wA blk age) (n + 1), ((n + 1 : Nat) : Int), q, t) ⟨n + 1, by omega, rfl⟩ (by simp only; omega)
   rw [KG] at e
   unfold wA at e ⊢
   split
   ·rename_i hc
    rw [if_pos hc] at e
    exact e
   ·rename_i hc
    rw [if_neg hc] at e
    exact e
  ·rw [show n = q.length by omega]
   simp
theorem y0w (q : List Int) (t : List y8) (blk age : Int) (hq : q.length ≤ 1048576) : jR (q, t, blk, age) = some (KG q (wA blk age) q.length) := by
 unfold jR Qj
 rw [w64 (n := (q.length : Int) - 1) (by omega) (by omega)]
 have h := Ys (step := wJ (fun x2 => some x2) (fun x3 => some (-1 : Int))) (fun u : wI => (u.2.2.1 + 1).toNat) (fun u => ∃ n : Nat, n ≤ q.length ∧ u = (blk, age, (n : Int) - 1, q, t)) (fun u => some (KG q (wA blk age) (u.2.2.1 + 1).toNat)) ?_ (blk, age, (q.length : Int) - 1, q, t) ⟨q.length, by omega, rfl⟩ (by simp; omega)
 ·rw [h]
  simp only
  rw [show ((q.length : Int) - 1 + 1).toNat = q.length by omega]
 ·rintro again u ⟨n, hn, rfl⟩ hag
  unfold wJ Ze
  cases n with
  | zero => simp [KG]
  | succ n =>
   have e1 : ((n + 1 : Nat) : Int) - 1 = (n : Int) := by omega
   have hw : Go.IntKind.wrap .i64 ((n : Int) - 1) = (n : Int) - 1 := w64 (by omega) (by omega)
   have hx : zl q (n : Int) = q.getD n 0 := rfl
   have h0 : 0 ≤ (n : Int) := by omega
   have h1 : (n : Int) < (q.length : Int) := by omega
   rw [e1]
   simp only [Bool.cond_eq_ite, decide_eq_true_eq, ge_iff_le, h0, h1, if_true, Option.bind_some, hw, hx]
   have e := hag (blk, age, (n : Int) - 1, q, t) ⟨n, by omega, rfl⟩ (by simp only; omega)
   rw [e]
   simp only
   rw [show ((n : Int) - 1 + 1).toNat = n by omega, show ((n : Int) + 1).toNat = n + 1 by omega, KG]
   unfold wA
   split <;> rfl
abbrev Ans : Type := Int × Int × Int × Int × Int × Bool
def y9H : Ans := (0, 0, 0, 0, 0, false)
def atP (blk age : Int) (a : y9) : Bool := a.1 == blk && a.2.1 == age
def y9I (a : y9) : Ans := (a.1, a.2.1, a.2.2.1, a.2.2.2.1, a.2.2.2.2, true)
def VB (l : List y9) (blk age : Int) : Ans := if Zn (atP blk age) l 0 < 0 then y9H else y9I (y0 l (Zn (atP blk age) l 0))
theorem y2a (l : List y9) (blk age : Int) (hl : l.length ≤ 1073741824) : wX (l, blk, age) = some (VB l blk age) := by
 unfold wX y17 VB
 refine (YQ (step := wj _ _) (fun i => (l, blk, age, i, 0, 0, 0, 0, 0)) (atP blk age) (fun i => some (y9I (y0 l i))) (some y9H) z6 l (by omega) ?_ ?_).trans ?_
 ·intro again i h0 h1
  have hw : Go.IntKind.wrap .i64 (i + 1) = i + 1 := w64 (by omega) (by omega)
  unfold wj atP y9I
  obtain ⟨⟨x1, x2, x3, x4, x5⟩, hx⟩ : ∃ x, y0 l i = x := ⟨_, rfl⟩
  have hx' : l.getD i.toNat z6 = (x1, x2, x3, x4, x5) := hx
  rw [hx']
  simp only [Bool.cond_eq_ite, decide_eq_true_eq, h0, h1, if_true, hw, hx]
  cases (x1 == blk) <;> cases (x2 == age) <;> rfl
 ·intro again i hi
  unfold wj
  simp only [Bool.cond_eq_ite, decide_eq_true_eq, if_neg hi]
  rfl
 ·split <;> rfl
theorem y2b (l : List y9) (blk age : Int) (hl : l.length ≤ 1073741824) : W2 (l, blk, age) = some (VB l blk age) := by
 unfold W2 y1a VB
 refine (YQ (step := ws _ _) (fun i => (blk, age, l, (l.length : Int), i, 0, 0, 0, 0, 0)) (atP blk age) (fun i => some (y9I (y0 l i))) (some y9H) z6 l (by omega) ?_ ?_).trans ?_
 ·intro again i h0 h1
  have hw : Go.IntKind.wrap .i64 (i + 1) = i + 1 := w64 (by omega) (by omega)
  unfold ws atP y9I
  obtain ⟨⟨x1, x2, x3, x4, x5⟩, hx⟩ : ∃ x, y0 l i = x := ⟨_, rfl⟩
  have hx' : l.getD i.toNat z6 = (x1, x2, x3, x4, x5) := hx
  rw [hx']
  simp only [Bool.cond_eq_ite, decide_eq_true_eq, h0, h1, if_true, hw, hx]
  cases (x1 == blk) <;> cases (x2 == age) <;> rfl
 ·intro again i hi
  unfold ws
  simp only [Bool.cond_eq_ite, decide_eq_true_eq, if_neg hi]
  rfl
 ·split <;> rfl
def VC (n : List ya) (blk age : Int) : Nat → Ans
 | 0 => y9H
 | m + 1 => if (VB (n.getD m yX) blk age).2.2.2.2.2 = true then (if ((VB (n.getD m yX) blk age).2.2.1 == 0) = true then y9H else VB (n.getD m yX) blk age) else VC n blk age m
theorem y5r (n : List ya) (blk age : Int) (hn : n.length ≤ 1048576) (hs : ∀ s ∈ n, List.length s ≤ 1073741824) : Wp (n, blk, age) = some (VC n blk age n.length) := by
 unfold Wp QV
 rw [w64 (n := (n.length : Int) - 1) (by omega) (by omega)]
 refine (Ys (step := Wo _ _) (fun u : Wn => (u.2.2.1 + 1).toNat) (fun u => ∃ m : Nat, m ≤ n.length ∧ u = (blk, age, (m : Int) - 1, n, 0, 0, 0, 0, 0)) (fun u => some (VC n blk age (u.2.2.1 + 1).toNat)) ?_ (blk, age, (n.length : Int) - 1, n, 0, 0, 0, 0, 0) ⟨n.length, by omega, rfl⟩ (by simp; omega)).trans ?_
 ·rintro again u ⟨m, hm, rfl⟩ hag
  unfold Wo
  cases m with
  | zero => rfl
  | succ m =>
   have e1 : ((m + 1 : Nat) : Int) - 1 = (m : Int) := by omega
   have hw : Go.IntKind.wrap .i64 ((m : Int) - 1) = (m : Int) - 1 := w64 (by omega) (by omega)
   have h0 : 0 ≤ (m : Int) := by omega
   have h1 : (m : Int) < (n.length : Int) := by omega
   have e := y2a (yo n (m : Int)) blk age (hs _ (zg yX n (m : Int) h0 h1))
   have hx : n.getD m yX = yo n (m : Int) := rfl
   rw [e1]
   simp only [Bool.cond_eq_ite, decide_eq_true_eq, ge_iff_le, h0, h1, if_true, Option.bind_some, hw, e]
   have e' := hag (blk, age, (m : Int) - 1, n, 0, 0, 0, 0, 0) ⟨m, by omega, rfl⟩ (by simp only; omega)
   rw [e', show ((m : Int) + 1).toNat = m + 1 by omega, VC, hx]
   simp only
   rw [show ((m : Int) - 1 + 1).toNat = m by omega]
   obtain ⟨r1, r2, r3, r4, r5, r6⟩ := VB (yo n (m : Int)) blk age
   cases r6
   ·rfl
   ·cases h3 : (r3 == 0) <;> simp [h3, y9H]
 ·simp only
  rw [show ((n.length : Int) - 1 + 1).toNat = n.length by omega]
theorem y5s (n : List ya) (blk age : Int) (hn : n.length ≤ 1048576) (hs : ∀ s ∈ n, List.length s ≤ 1073741824) : kg (n, blk, age) = some (VC n blk age n.length) := by
 unfold kg y0i
 rw [w64 (n := (n.length : Int) - 1) (by omega) (by omega)]
 refine (Ys (step := kf _ _) (fun u : ke => (u.2.2.1 + 1).toNat) (fun u => ∃ m : Nat, m ≤ n.length ∧ u = (blk, age, (m : Int) - 1, n, 0, 0, 0, 0, 0)) (fun u => some (VC n blk age (u.2.2.1 + 1).toNat)) ?_ (blk, age, (n.length : Int) - 1, n, 0, 0, 0, 0, 0) ⟨n.length, by omega, rfl⟩ (by simp; omega)).trans ?_
 ·rintro again u ⟨m, hm, rfl⟩ hag
  unfold kf
  cases m with
  | zero => rfl
  | succ m =>
   have e1 : ((m + 1 : Nat) : Int) - 1 = (m : Int) := by omega
   have hw : Go.IntKind.wrap .i64 ((m : Int) - 1) = (m : Int) - 1 := w64 (by omega) (by omega)
   have h0 : 0 ≤ (m : Int) := by omega
   have h1 : (m : Int) < (n.length : Int) := by omega
   have e := y2b (yo n (m : Int)) blk age (hs _ (zg yX n (m : Int) h0 h1))
   have hx : n.getD m yX = yo n (m : Int) := rfl
   rw [e1]
   simp only [Bool.cond_eq_ite, decide_eq_true_eq, ge_iff_le, h0, h1, if_true, Option.bind_some, hw, e]
   have e' := hag (blk, age, (m : Int) - 1, n, 0, 0, 0, 0, 0) ⟨m, by omega, rfl⟩ (by simp only; omega)
   rw [e', show ((m : Int) + 1).toNat = m + 1 by omega, VC, hx]
   simp only
   rw [show ((m : Int) - 1 + 1).toNat = m by omega]
   obtain ⟨r1, r2, r3, r4, r5, r6⟩ := VB (yo n (m : Int)) blk age
   cases r6
   ·rfl
   ·cases h3 : (r3 == 0) <;> simp [h3, y9H]
 ·simp only
  rw [show ((n.length : Int) - 1 + 1).toNat = n.length by omega]
def JE (q : List Int) (t : List y8) (blk age : Int) : Ans :=
 if inR (KG q (wA blk age) q.length) 0 ((t.length : Int) - 1) = true then VC (yh t (KG q (wA blk age) q.length)) blk age (yh t (KG q (wA blk age) q.length)).length else y9H
theorem Kq (q : List Int) (t : List y8) (blk age : Int) (ht : TOk t) (hq : q.length ≤ 1048576) : jl (q, t, blk, age) = some (JE q t blk age) := by
 unfold jl JE
 have hlen := ht.len
 rw [w64 (n := (t.length : Int) - 1) (by omega) (by omega)]
 simp only [y0v q t blk age hq, Zy, Option.bind_some]
 generalize KG q (wA blk age) q.length = i
 by_cases h : inR i 0 ((t.length : Int) - 1) = true
 ·obtain ⟨h0, h1⟩ := jS.1 h
  have hmem : yh t i ∈ t := zg yB t i h0 (by omega)
  obtain ⟨a1, a2⟩ := ht.node hmem
  have e := y5r (yh t i) blk age a1 (fun s hs => by have := a2 s hs; omega)
  rw [h, if_pos h0, if_pos (by omega), e]
  rfl
 ·have : inR i 0 ((t.length : Int) - 1) = false := by simpa using h
  rw [this]
  rfl
theorem y1j (q : List Int) (t : List y8) (blk age : Int) (ht : TOk t) (hq : q.length ≤ 1048576) : JW (q, t, blk, age) = some (JE q t blk age) := by
 unfold JW JE
 have hlen := ht.len
 rw [w64 (n := (t.length : Int) - 1) (by omega) (by omega)]
 simp only [y0w q t blk age hq, jI, Option.bind_some]
 generalize KG q (wA blk age) q.length = i
 by_cases h : inR i 0 ((t.length : Int) - 1) = true
 ·obtain ⟨h0, h1⟩ := jS.1 h
  have hmem : yh t i ∈ t := zg yB t i h0 (by omega)
  obtain ⟨a1, a2⟩ := ht.node hmem
  have e := y5s (yh t i) blk age a1 (fun s hs => by have := a2 s hs; omega)
  rw [h, if_pos h0, if_pos (by omega), e]
  rfl
 ·have : inR i 0 ((t.length : Int) - 1) = false := by simpa using h
  rw [this]
  rfl
end Go.Proofs.YthgdjjdigalckaaGreat.Pl
namespace Go.Proofs.YthgdjjdigalckaaGreat.Pl
open Go.Proofs.YthgdjjdigalckaaGreat.R Go.Proofs.YthgdjjdigalckaaGreat.XC
structure NS (n : List ya) : Prop where
 len : n.length ≤ 1000
 sum : W4 Vi n ≤ 1000
theorem NS.mem {n : List ya} (h : NS n) {s : ya} (hs : s ∈ n) : List.length s ≤ 1000 := by
 have h1 := (y0K K8 hs).1
 have h2 := h.sum
 have h3 : Vi s = (List.length s : Int) := rfl
 omega
theorem NS.q {n : List ya} (h : NS n) : y3o n := ⟨Nat.le_trans h.len (by decide), fun b hb => Nat.le_trans (h.mem hb) (by decide)⟩
theorem NS.keys {n : List ya} (h : NS n) : (z4 n).length ≤ 1000 := by
 have h1 := V9 n
 have h2 := h.sum
 omega
def kt (n : List ya) : ya := n.getD (n.length - 1) yX
theorem y9J {n : List ya} (h : 0 < n.length) : kt n ∈ n := by
 unfold kt
 rw [y0t _ _ _ (by omega)]
 exact List.getElem_mem _
def ku (n : List ya) (k : y9) : List ya :=
 if 0 < n.length ∧ (List.length (kt n) < 4 ∨ (VB (kt n) k.1 k.2.1).2.2.2.2.2 = true) then n.set (n.length - 1) (JZ (kt n) k) else n ++ [[k]]
def jU (n : List ya) (k : y9) : List y9 := y4H (JZ (z4 n) k)
def zs (n : List ya) (k : y9) : List ya × Bool :=
 if Ym (ku n k) = true then (ku n k, true) else if (jU n k).length > 8 then (n, false) else if Ym (zt (jU n k)) = true then (zt (jU n k), true) else (n, false)
theorem yfh (l : List y9) : (y4H l).length ≤ l.length := by
 have := y4I l []
 simpa [y4H] using this
theorem y2c (n : List ya) (k : y9) : (jU n k).length ≤ (z4 n).length + 1 := by
 have h1 := yfh (JZ (z4 n) k)
 have h2 := JX (z4 n) k
 unfold jU
 omega
theorem JF (l : List y9) (h : l.length ≤ 1048576) : yR l = some (zt l) := by
 unfold yR zt
 by_cases h0 : l.length = 0
 ·rw [if_pos h0, show (((List.length l : Nat) : Int) == 0) = true from beq_iff_eq.2 (by omega)]
  rfl
 ·rw [if_neg h0, show (((List.length l : Nat) : Int) == 0) = false from beq_eq_false_iff_ne.2 (by omega), cond_false, if_pos (by simp only [List.length_nil]; omega)]
  rfl
theorem kv (l : List y9) (h : l.length ≤ 1048576) : zq l = some (zt l) := by
 unfold zq zt
 by_cases h0 : l.length = 0
 ·rw [if_pos h0, show (((List.length l : Nat) : Int) == 0) = true from beq_iff_eq.2 (by omega)]
  rfl
 ·rw [if_neg h0, show (((List.length l : Nat) : Int) == 0) = false from beq_eq_false_iff_ne.2 (by omega), cond_false, KT l h]
  rfl
theorem qE {l : List y9} (h : l.length ≤ 1000) : NS (zt l) := by
 unfold zt
 split
 ·exact ⟨by simp, by simp [W4]⟩
 ·exact ⟨by simp, by simp [W4, Vi]; omega⟩
theorem y4V (l : List y9) : (zt l).length ≤ 1 ∧ W4 Vi (zt l) ≤ l.length := by
 unfold zt
 split
 ·exact ⟨by simp, by simp [W4]⟩
 ·exact ⟨by simp, by simp [W4, Vi]⟩
theorem ymw {n : List ya} (i : Nat) (s : ya) (hi : i < n.length) : W4 Vi (n.set i s) = W4 Vi n - Vi (n.getD i yX) + Vi s := by
 induction n generalizing i with
 | nil => simp at hi
 | cons a n ih =>
  cases i with
  | zero =>
   rw [List.set_cons_zero, Y1, Y1]
   simp
   omega
  | succ i =>
   rw [List.set_cons_succ, Y1, Y1, ih i (by simpa using hi), List.getD_cons_succ]
   omega
theorem y2d {A : Type} (w : A → Int) (l : List A) (a : A) : W4 w (l ++ [a]) = W4 w l + w a := by
 induction l with
 | nil => simp [W4]
 | cons b l ih =>
  rw [List.cons_append, Y1, Y1, ih]
  omega
theorem y2E (n : List ya) (k : y9) : (ku n k).length ≤ n.length + 1 ∧ W4 Vi (ku n k) ≤ W4 Vi n + 1 := by
 unfold ku
 split
 ·rename_i h
  have h1 := JX (kt n) k
  have h2 : Vi (JZ (kt n) k) ≤ Vi (kt n) + 1 := by
   unfold Vi
   have : List.length (JZ (kt n) k) ≤ List.length (kt n) + 1 := h1
   omega
  rw [List.length_set, ymw _ _ (by omega)]
  have e : n.getD (n.length - 1) yX = kt n := rfl
  rw [e]
  constructor <;> omega
 ·rw [y2d, List.length_append]
  have e : Vi [k] = 1 := rfl
  rw [e]
  exact ⟨Nat.le_refl _, Int.le_refl _⟩
theorem NS.small {n : List ya} (h1 : n.length ≤ 1001) (h2 : W4 Vi n ≤ 1001) : n.length ≤ 1073741824 ∧ ∀ s ∈ n, List.length s ≤ 1073741824 := by
 refine ⟨by omega, fun s hs => ?_⟩
 have h3 := (y0K K8 hs).1
 have h4 : Vi s = (List.length s : Int) := rfl
 omega
section
variable (n : List ya) (a b c d e : Int) (h : NS n)
include h
theorem y0x : Yz (n, a, b, c, d, e) = some (zs n (a, b, c, d, e)) := by
 have hk := h.keys
 have hl := h.len
 have hs := h.sum
 have hW := y2c n (a, b, c, d, e)
 have hN := y4V (jU n (a, b, c, d, e))
 have hN2 := NS.small (n := zt (jU n (a, b, c, d, e))) (by omega) (by omega)
 have hO := y2E n (a, b, c, d, e)
 have hO2 := NS.small (n := ku n (a, b, c, d, e)) (by omega) (by omega)
 have hw : Go.IntKind.wrap .i64 ((n.length : Int) - 1) = (n.length : Int) - 1 := w64 (by omega) (by omega)
 have hT : ∀ out, out = ku n (a, b, c, d, e) → (Option.bind (zn out) fun r6 => bif r6 then some (out, true) else Option.bind (yE n) fun r7 => Option.bind (zr (r7, a, b, c, d, e)) fun r8 => Option.bind (zT r8) fun r9 => bif (decide (((List.length r9 : Nat) : Int) > (8 : Int))) then some (n, false) else Option.bind (yR r9) fun r11 => Option.bind (zn r11) fun r12 => bif (!r12) then some (n, false) else Option.bind (yR r9) fun r14 => some (r14, true)) = some (zs n (a, b, c, d, e)) := by
  rintro out rfl
  have e1 : zT (JZ (z4 n) (a, b, c, d, e)) = some (jU n (a, b, c, d, e)) := y0n _ (by have := JX (z4 n) (a, b, c, d, e); omega)
  simp only [VO _ hO2.1 hO2.2, Z0 n (by omega) (by omega), wx (z4 n) a b c d e (by omega), e1, JF (jU n (a, b, c, d, e)) (by omega), VO _ hN2.1 hN2.2, Option.bind_some]
  unfold zs
  cases Ym (ku n (a, b, c, d, e)) with
  | true => rfl
  | false =>
   by_cases h8 : (jU n (a, b, c, d, e)).length > 8
   ·rw [decide_eq_true (show ((List.length (jU n (a, b, c, d, e)) : Nat) : Int) > 8 by omega), if_pos h8]
    rfl
   ·rw [decide_eq_false (show ¬ ((List.length (jU n (a, b, c, d, e)) : Nat) : Int) > 8 by omega), if_neg h8]
    cases Ym (zt (jU n (a, b, c, d, e))) <;> rfl
 unfold Yz
 simp only [VV n h.q, Option.bind_some, hw]
 by_cases h0 : n.length = 0
 ·have e1 : ¬ (0 < n.length ∧ (List.length (kt n) < 4 ∨ (VB (kt n) a b).2.2.2.2.2 = true)) := fun hh => by omega
  simp only [decide_eq_false (show ¬ ((n.length : Int) - 1 ≥ 0) by omega), cond_false, Option.bind_some]
  rw [if_pos (by simp only [List.length_cons, List.length_nil]; omega)]
  exact hT _ (by unfold ku; rw [if_neg e1])
 ·have i0 : 0 ≤ (n.length : Int) - 1 := by omega
  have i1 : (n.length : Int) - 1 < ((List.length n : Nat) : Int) := by omega
  have hlm := h.mem (y9J (n := n) (by omega))
  have erd : yo n ((n.length : Int) - 1) = kt n := by
   show n.getD ((n.length : Int) - 1).toNat yX = n.getD (n.length - 1) yX
   congr 1
   omega
  have etn : ((n.length : Int) - 1).toNat = n.length - 1 := by omega
  rw [decide_eq_true (show (n.length : Int) - 1 ≥ 0 from i0)]
  simp only [cond_true, i0, i1, if_true, erd, etn, y2a (kt n) a b (by omega), wx (kt n) a b c d e (by omega), Option.bind_some]
  by_cases h4 : List.length (kt n) < 4
  ·rw [decide_eq_true (show ((List.length (kt n) : Nat) : Int) < 4 by omega)]
   exact hT _ (by unfold ku; rw [if_pos ⟨by omega, .inl h4⟩])
  ·rw [decide_eq_false (show ¬ ((List.length (kt n) : Nat) : Int) < 4 by omega)]
   cases hA : (VB (kt n) a b).2.2.2.2.2 with
   | true => exact hT _ (by unfold ku; rw [if_pos ⟨by omega, .inr hA⟩])
   | false =>
    simp only [cond_false, Option.bind_some]
    rw [if_pos (by simp only [List.length_cons, List.length_nil]; omega)]
    exact hT _ (by
     unfold ku
     rw [if_neg fun hh => ?_]
     rcases hh.2 with hh | hh
     ·exact h4 hh
     ·rw [hA] at hh
      cases hh)
theorem Qr : zK (n, a, b, c, d, e) = some (jU n (a, b, c, d, e)) := by
 have hk := h.keys
 have hl := h.len
 have hs := h.sum
 have e1 : Jp (JZ (z4 n) (a, b, c, d, e)) = some (jU n (a, b, c, d, e)) := y2Z _ (by have := JX (z4 n) (a, b, c, d, e); omega)
 unfold zK
 simp only [jH n (by omega) (by omega), VN (z4 n) a b c d e (by omega), e1, Option.bind_some]
theorem y4W : ww (n, a, b, c, d, e) = some (zs n (a, b, c, d, e)) := by
 have hk := h.keys
 have hl := h.len
 have hs := h.sum
 have hW := y2c n (a, b, c, d, e)
 have hN := y4V (jU n (a, b, c, d, e))
 have hN2 := NS.small (n := zt (jU n (a, b, c, d, e))) (by omega) (by omega)
 have hO := y2E n (a, b, c, d, e)
 have hO2 := NS.small (n := ku n (a, b, c, d, e)) (by omega) (by omega)
 have hw : Go.IntKind.wrap .i64 ((n.length : Int) - 1) = (n.length : Int) - 1 := w64 (by omega) (by omega)
 have hT : ∀ out, out = ku n (a, b, c, d, e) → (Option.bind (zB out) fun r5 => bif r5 then some (out, true) else Option.bind (zK (n, a, b, c, d, e)) fun r6 => Option.bind (zq r6) fun r7 => Option.bind (bif (decide (((List.length r6 : Nat) : Int) > (8 : Int))) then some true else Option.bind (zB r7) fun r9 => some (!r9)) fun u8 => bif u8 then some (n, false) else some (r7, true)) = some (zs n (a, b, c, d, e)) := by
  rintro out rfl
  simp only [VP _ hO2.1 hO2.2, Qr n a b c d e h, kv (jU n (a, b, c, d, e)) (by omega), VP _ hN2.1 hN2.2, Option.bind_some]
  unfold zs
  cases Ym (ku n (a, b, c, d, e)) with
  | true => rfl
  | false =>
   by_cases h8 : (jU n (a, b, c, d, e)).length > 8
   ·rw [decide_eq_true (show ((List.length (jU n (a, b, c, d, e)) : Nat) : Int) > 8 by omega), if_pos h8]
    rfl
   ·rw [decide_eq_false (show ¬ ((List.length (jU n (a, b, c, d, e)) : Nat) : Int) > 8 by omega), if_neg h8]
    cases Ym (zt (jU n (a, b, c, d, e))) <;> rfl
 unfold ww
 simp only [KU n h.q, Option.bind_some, hw]
 by_cases h0 : n.length = 0
 ·have e1 : ¬ (0 < n.length ∧ (List.length (kt n) < 4 ∨ (VB (kt n) a b).2.2.2.2.2 = true)) := fun hh => by omega
  simp only [decide_eq_false (show ¬ ((n.length : Int) - 1 ≥ 0) by omega), cond_false, Option.bind_some]
  rw [if_pos (by simp only [List.length_cons, List.length_nil]; omega)]
  exact hT _ (by unfold ku; rw [if_neg e1])
 ·have i0 : 0 ≤ (n.length : Int) - 1 := by omega
  have i1 : (n.length : Int) - 1 < ((List.length n : Nat) : Int) := by omega
  have hlm := h.mem (y9J (n := n) (by omega))
  have erd : yo n ((n.length : Int) - 1) = kt n := by
   show n.getD ((n.length : Int) - 1).toNat yX = n.getD (n.length - 1) yX
   congr 1
   omega
  have etn : ((n.length : Int) - 1).toNat = n.length - 1 := by omega
  rw [decide_eq_true (show (n.length : Int) - 1 ≥ 0 from i0)]
  simp only [cond_true, i0, i1, if_true, erd, etn, y2b (kt n) a b (by omega), VN (kt n) a b c d e (by omega), Option.bind_some]
  cases hA : (VB (kt n) a b).2.2.2.2.2 with
  | true => exact hT _ (by unfold ku; rw [if_pos ⟨by omega, .inr hA⟩])
  | false =>
   by_cases h4 : List.length (kt n) < 4
   ·rw [decide_eq_true (show ((List.length (kt n) : Nat) : Int) < 4 by omega)]
    exact hT _ (by unfold ku; rw [if_pos ⟨by omega, .inl h4⟩])
   ·rw [decide_eq_false (show ¬ ((List.length (kt n) : Nat) : Int) < 4 by omega)]
    simp only [cond_false, Option.bind_some]
    rw [if_pos (by simp only [List.length_cons, List.length_nil]; omega)]
    exact hT _ (by
     unfold ku
     rw [if_neg fun hh => ?_]
     rcases hh.2 with hh | hh
     ·exact h4 hh
     ·rw [hA] at hh
      cases hh)
end
end Go.Proofs.YthgdjjdigalckaaGreat.Pl
namespace Go.Proofs.YthgdjjdigalckaaGreat.Pl
open Go.Proofs.YthgdjjdigalckaaGreat.R Go.Proofs.YthgdjjdigalckaaGreat.XC
structure TS (t : List y8) : Prop where
 len : t.length ≤ 100
 node : ∀ n ∈ t, NS n
theorem TS.ok {t : List y8} (h : TS t) : TOk t := by
 have hl := h.len
 refine ⟨by omega, fun n hn => Nat.le_trans (h.node n hn).len (by decide), ?_⟩
 have hb : ∀ (t : List y8), (∀ n ∈ t, NS n) → W4 Qw t ≤ 2000 * t.length := by
  intro t
  induction t with
  | nil => intro _; simp [W4]
  | cons a t ih =>
   intro hn
   have h1 := ih fun n h => hn n (by simp [h])
   have h2 := hn a (by simp)
   have h3 : Qw a = (List.length a : Int) + W4 Vi a := rfl
   have h4 : List.length a ≤ 1000 := h2.len
   have h5 : W4 Vi a ≤ 1000 := h2.sum
   rw [Y1, List.length_cons]
   omega
 have := hb t h.node
 omega
def zw {A : Type} (l : List A) (i c : Nat) (m : List A) : List A := l.take i ++ m ++ l.drop (i + c)
theorem JY {A : Type} (l : List A) (i c : Nat) (m : List A) (h : i + c ≤ l.length) : (zw l i c m).length = l.length + m.length - c := by
 unfold zw
 simp only [List.length_append, List.length_take, List.length_drop]
 omega
theorem ydn {A : Type} {l : List A} {i c : Nat} {m : List A} {x : A} (h : x ∈ zw l i c m) : x ∈ l ∨ x ∈ m := by
 unfold zw at h
 rcases List.mem_append.1 h with h | h
 ·rcases List.mem_append.1 h with h | h
  ·exact .inl (List.mem_of_mem_take h)
  ·exact .inr h
 ·exact .inl (List.mem_of_mem_drop h)
theorem y6h {A : Type} (l : List A) (i : Nat) (x : A) (h : i < l.length) : zw l i 1 [x] = l.set i x := by
 unfold zw
 rw [List.set_eq_take_append_cons_drop, if_pos h]
 simp
theorem ydo {A : Type} (d : A) (l : List A) (i : Nat) (h : i + 2 ≤ l.length) : zw l i 2 [l.getD i d] = l.take (i + 1) ++ l.drop (i + 2) := by
 unfold zw
 rw [y0t _ _ _ (by omega), List.take_succ_eq_append_getElem (by omega)]
theorem TS.splice {t : List y8} (h : TS t) {i c : Nat} {m : List y8} (hl : (zw t i c m).length ≤ 100) (hm : ∀ n ∈ m, NS n) : TS (zw t i c m) :=
 ⟨hl, fun n hn => (ydn hn).elim (h.node n) (hm n)⟩
theorem qZ (q : List Int) (t : List y8) (i : Int) (ql : List Int) (tl : List y8) (h0 : 0 ≤ i) (h1 : i < (q.length : Int)) (h2 : i < (t.length : Int)) (hq : q.length ≤ 1000) (ht : t.length ≤ 1000) (hql : ql.length ≤ 1000) (htl : tl.length ≤ 1000) :
  Ji (q, t, i, ql, tl) = some (zw q i.toNat 1 ql, zw t i.toNat 1 tl) := by
 have hw : Go.IntKind.wrap .i64 (i + 1) = i + 1 := w64 (by omega) (by omega)
 have e1 : (i + 1).toNat = i.toNat + 1 := by omega
 unfold Ji
 simp only [hw]
 iterate 18 rw [if_pos (by first | omega | (simp only [List.length_append, List.length_drop, List.length_take, List.length_nil]; omega))]
 simp [zw, e1]
theorem KV (q : List Int) (t : List y8) (i c : Int) (ql : List Int) (tl : List y8) (h0 : 0 ≤ i) (hc : 0 ≤ c) (h1 : i + c ≤ (q.length : Int)) (h2 : i + c ≤ (t.length : Int)) (hq : q.length ≤ 1000) (ht : t.length ≤ 1000) (hql : ql.length ≤ 1000) (htl : tl.length ≤ 1000) :
  zW (q, t, i, c, ql, tl) = some (zw q i.toNat c.toNat ql, zw t i.toNat c.toNat tl) := by
 have hw : Go.IntKind.wrap .i64 (i + c) = i + c := w64 (by omega) (by omega)
 have e1 : (i + c).toNat = i.toNat + c.toNat := by omega
 have e2 : List.drop (Int.toNat 0) (List.take (Int.toNat i) q) = q.take i.toNat := rfl
 unfold zW
 simp only [hw]
 iterate 3 rw [if_pos (by omega)]
 rw [e2, Qo _ (by rw [List.length_take]; omega)]
 simp only [Option.bind_some]
 iterate 14 rw [if_pos (by first | omega | (simp only [List.length_append, List.length_drop, List.length_take, List.length_nil]; omega))]
 simp [zw, e1]
def z8 : List y8 → Int → Int
 | a :: b :: r, i => if (z4 a).length + (z4 b).length ≤ 6 then i else z8 (b :: r) (i + 1)
 | _, _ => -1
theorem y4X (l : List y8) (i : Int) (h : l.length ≤ 1) : z8 l i = -1 := by
 match l, h with
 | [], _ => rfl
 | [_], _ => rfl
theorem y6i : ∀ (l : List y8) (i : Int), z8 l i = -1 ∨ i ≤ z8 l i ∧ z8 l i + 2 ≤ i + l.length ∧ (z4 (l.getD (z8 l i - i).toNat yB)).length + (z4 (l.getD (z8 l i - i + 1).toNat yB)).length ≤ 6
 | [], _ => .inl rfl
 | [_], _ => .inl rfl
 | a :: b :: r, i => by
  rw [z8]
  by_cases h : (z4 a).length + (z4 b).length ≤ 6
  ·rw [if_pos h]
   refine .inr ⟨Int.le_refl _, by simp only [List.length_cons]; omega, ?_⟩
   rw [show (i - i).toNat = 0 by omega, show (i - i + 1).toNat = 1 by omega]
   exact h
  ·rw [if_neg h]
   rcases y6i (b :: r) (i + 1) with h1 | ⟨h1, h2, h3⟩
   ·exact .inl h1
   ·refine .inr ⟨by omega, by simp only [List.length_cons] at h2 ⊢; omega, ?_⟩
    rw [show (z8 (b :: r) (i + 1) - i).toNat = (z8 (b :: r) (i + 1) - (i + 1)).toNat + 1 by omega, show (z8 (b :: r) (i + 1) - i + 1).toNat = (z8 (b :: r) (i + 1) - (i + 1) + 1).toNat + 1 by omega, List.getD_cons_succ, List.getD_cons_succ]
    exact h3
theorem ycx (t : List y8) (i : Int) (h0 : 0 ≤ i) (h1 : i + 1 < (t.length : Int)) : z8 (t.drop i.toNat) i = if (z4 (yh t i)).length + (z4 (yh t (i + 1))).length ≤ 6 then i else z8 (t.drop (i + 1).toNat) (i + 1) := by
 rw [JC yB t i h0 (by omega), JC yB t (i + 1) (by omega) h1, z8]
 rfl
theorem nk {t : List y8} (h : TS t) {i : Int} (h0 : 0 ≤ i) (h1 : i < (t.length : Int)) : NS (yh t i) := h.node _ (zg yB t i h0 h1)
theorem Vc {t : List y8} (h : TS t) {i : Int} (h0 : 0 ≤ i) (h1 : i < (t.length : Int)) : yE (yh t i) = some (z4 (yh t i)) := by
 have hn := nk h h0 h1
 exact Z0 _ (Nat.le_trans hn.len (by decide)) (Int.le_trans hn.sum (by decide))
theorem y4Y {t : List y8} (h : TS t) {i : Int} (h0 : 0 ≤ i) (h1 : i < (t.length : Int)) : yN (yh t i) = some (z4 (yh t i)) := by
 have hn := nk h h0 h1
 exact jH _ (Nat.le_trans hn.len (by decide)) (Int.le_trans hn.sum (by decide))
theorem y34 (q : List Int) (t : List y8) (h : TS t) : JP (q, t) = some (z8 t 0) := by
 have hl := h.len
 unfold JP QT
 refine Ys (step := Wl _ _) (fun x : Int × List Int × List y8 => t.length - x.1.toNat) (fun x => x.2.2 = t ∧ 0 ≤ x.1 ∧ x.1 ≤ (t.length : Int)) (fun x => some (z8 (t.drop x.1.toNat) x.1)) ?_ (0, q, t) ⟨rfl, Int.le_refl _, by simp⟩ (by simp; omega)
 rintro again ⟨i, q', t'⟩ ⟨rfl, i0, i1⟩ hag
 simp only at i0 i1 hl h ⊢
 unfold Wl
 by_cases hi : i + 1 < (t'.length : Int)
 ·have hw : Go.IntKind.wrap .i64 (i + 1) = i + 1 := w64 (by omega) (by omega)
  have k1 := nk h i0 (show i < (t'.length : Int) by omega)
  have k2 := nk h (show 0 ≤ i + 1 by omega) hi
  have hw2 : Go.IntKind.wrap .i64 (((List.length (z4 (yh t' i)) : Nat) : Int) + ((List.length (z4 (yh t' (i + 1))) : Nat) : Int)) = ((List.length (z4 (yh t' i)) : Nat) : Int) + ((List.length (z4 (yh t' (i + 1))) : Nat) : Int) := w64 (by omega) (by have := k1.keys; have := k2.keys; omega)
  simp only [hw, Vc h i0 (show i < (t'.length : Int) by omega), Vc h (show 0 ≤ i + 1 by omega) hi, Option.bind_some, hw2]
  rw [decide_eq_true hi, cond_true, if_pos i0, if_pos (by omega), if_pos (by omega), if_pos hi, ycx t' i i0 hi]
  by_cases h6 : (z4 (yh t' i)).length + (z4 (yh t' (i + 1))).length ≤ 6
  ·rw [decide_eq_true (show ((List.length (z4 (yh t' i)) : Nat) : Int) + ((List.length (z4 (yh t' (i + 1))) : Nat) : Int) ≤ 6 by omega), if_pos h6]
   rfl
  ·rw [decide_eq_false (show ¬ ((List.length (z4 (yh t' i)) : Nat) : Int) + ((List.length (z4 (yh t' (i + 1))) : Nat) : Int) ≤ 6 by omega), if_neg h6]
   exact hag _ ⟨rfl, by simp only; omega, by simp only; omega⟩ (by simp only; omega)
 ·have hw : ¬ Go.IntKind.wrap .i64 (i + 1) < (t'.length : Int) := by
   rw [w64 (by omega) (by omega)]
   exact hi
  rw [decide_eq_false hw, y4X _ _ (by rw [List.length_drop]; omega)]
  rfl
def wQ : Nat → List Int → List y8 → List Int × List y8
 | 0, q, t => (q, t)
 | m + 1, q, t => if z8 t 0 < 0 then (q, t) else wQ m (zw q (z8 t 0).toNat 2 [q.getD (z8 t 0).toNat 0]) (zw t (z8 t 0).toNat 2 [zt (z4 (t.getD (z8 t 0).toNat yB) ++ z4 (t.getD (z8 t 0 + 1).toNat yB))])
section
variable {q : List Int} {t : List y8} (h : TS t) (hq : q.length = t.length) (hp : ¬ z8 t 0 < 0)
include h hp
omit h in
theorem y8r : 0 ≤ z8 t 0 ∧ z8 t 0 + 2 ≤ (t.length : Int) ∧ (z4 (yh t (z8 t 0))).length + (z4 (yh t (z8 t 0 + 1))).length ≤ 6 := by
 rcases y6i t 0 with h1 | ⟨h1, h2, h3⟩
 ·omega
 ·refine ⟨h1, by omega, ?_⟩
  rw [Int.sub_zero] at h3
  exact h3
theorem ybr : TS (zw t (z8 t 0).toNat 2 [zt (z4 (yh t (z8 t 0)) ++ z4 (yh t (z8 t 0 + 1)))]) := by
 obtain ⟨h1, h2, h3⟩ := y8r hp
 have hl := h.len
 refine h.splice (by rw [JY _ _ _ _ (by omega)]; simp only [List.length_cons, List.length_nil]; omega) fun n hn => ?_
 obtain rfl := List.mem_singleton.1 hn
 exact qE (by rw [List.length_append]; omega)
include hq
theorem ycy : (zw t (z8 t 0).toNat 2 [zt (z4 (yh t (z8 t 0)) ++ z4 (yh t (z8 t 0 + 1)))]).length = t.length - 1 ∧ (zw q (z8 t 0).toNat 2 [q.getD (z8 t 0).toNat 0]).length = t.length - 1 := by
 obtain ⟨h1, h2, h3⟩ := y8r hp
 rw [JY _ _ _ _ (by omega), JY _ _ _ _ (by omega)]
 simp only [List.length_cons, List.length_nil]
 omega
theorem y6j : wQ t.length q t = wQ (t.length - 1) (zw q (z8 t 0).toNat 2 [q.getD (z8 t 0).toNat 0]) (zw t (z8 t 0).toNat 2 [zt (z4 (yh t (z8 t 0)) ++ z4 (yh t (z8 t 0 + 1)))]) := by
 obtain ⟨h1, h2, h3⟩ := y8r hp
 rw [show t.length = (t.length - 1) + 1 by omega, wQ, if_neg hp]
 rfl
end
theorem y9K {q : List Int} {t : List y8} (m : Nat) (hp : z8 t 0 < 0) : wQ m q t = (q, t) := by
 cases m with
 | zero => rfl
 | succ m => rw [wQ, if_pos hp]
theorem y9L (q : List Int) (t : List y8) (h : TS t) (hq : q.length = t.length) : Z8 (q, t) = some (wQ t.length q t) := by
 have hl := h.len
 unfold Z8 QU
 simp only [y34 q t h, Option.bind_some]
 refine Ys (step := Wm _) (fun x : Int × List Int × List y8 => x.2.2.length) (fun x => TS x.2.2 ∧ x.2.1.length = x.2.2.length ∧ x.1 = z8 x.2.2 0) (fun x => some (wQ x.2.2.length x.2.1 x.2.2)) ?_ (z8 t 0, q, t) ⟨h, hq, rfl⟩ (by simp only; omega)
 rintro again ⟨i, q, t⟩ ⟨h, hq, hi⟩ hag
 simp only at h hq hi ⊢
 subst hi
 have hl := h.len
 unfold Wm
 by_cases hp : z8 t 0 < 0
 ·rw [decide_eq_false (show ¬ z8 t 0 ≥ 0 by omega), y9K _ hp]
  rfl
 ·obtain ⟨h1, h2, h3⟩ := y8r hp
  have hw : Go.IntKind.wrap .i64 (z8 t 0 + 1) = z8 t 0 + 1 := w64 (by omega) (by omega)
  have hw2 : Go.IntKind.wrap .i64 (z8 t 0 + 2) = z8 t 0 + 2 := w64 (by omega) (by omega)
  have hT := ybr h hp
  have hL := ycy h hq hp
  have eq1 : ([] ++ List.drop (Int.toNat 0) (List.take (Int.toNat (z8 t 0 + 1)) q)) ++ List.drop (Int.toNat (z8 t 0 + 2)) (List.take (Int.toNat (q.length : Int)) q) = zw q (z8 t 0).toNat 2 [q.getD (z8 t 0).toNat 0] := by
   rw [ydo 0 q _ (by omega), show (z8 t 0 + 1).toNat = (z8 t 0).toNat + 1 by omega, show (z8 t 0 + 2).toNat = (z8 t 0).toNat + 2 by omega]
   simp
  have eq2 : ∀ n : y8, (([] ++ List.drop (Int.toNat 0) (List.take (Int.toNat (z8 t 0)) t)) ++ [n]) ++ List.drop (Int.toNat (z8 t 0 + 2)) (List.take (Int.toNat (t.length : Int)) t) = zw t (z8 t 0).toNat 2 [n] := fun n => by
   rw [show (z8 t 0 + 2).toNat = (z8 t 0).toNat + 2 by omega]
   simp [zw]
  simp only [hw, hw2, Vc h h1 (show z8 t 0 < (t.length : Int) by omega), Vc h (show 0 ≤ z8 t 0 + 1 by omega) (show z8 t 0 + 1 < (t.length : Int) by omega), JF (z4 (yh t (z8 t 0)) ++ z4 (yh t (z8 t 0 + 1))) (by rw [List.length_append]; omega), Option.bind_some, eq1, eq2, y34 _ _ hT]
  rw [decide_eq_true (show z8 t 0 ≥ 0 from h1), cond_true]
  iterate 22 rw [if_pos (by first | omega | (simp only [List.length_append, List.length_drop, List.length_take, List.length_nil, List.length_cons]; omega))]
  rw [y6j h hq hp, ← hL.1]
  exact hag (z8 (zw t (z8 t 0).toNat 2 [zt (z4 (yh t (z8 t 0)) ++ z4 (yh t (z8 t 0 + 1)))]) 0, zw q (z8 t 0).toNat 2 [q.getD (z8 t 0).toNat 0], zw t (z8 t 0).toNat 2 [zt (z4 (yh t (z8 t 0)) ++ z4 (yh t (z8 t 0 + 1)))]) ⟨hT, hL.2.trans hL.1.symm, rfl⟩ (by simp only; omega)
theorem y5t (q : List Int) (t : List y8) (h : TS t) (hq : q.length = t.length) : Zk (q, t) = some (wQ t.length q t) := by
 have hl := h.len
 unfold Zk y0j
 have key : ∀ (i : Int) (q : List Int) (t : List y8) (k1 k2 : Int × List Int × List y8 → Option (List Int × List y8)), TS t → q.length = t.length → 0 ≤ i → i ≤ (t.length : Int) → z8 t 0 = z8 (t.drop i.toNat) i →
   (∀ i' q' t', TS t' → q'.length = t'.length → 0 ≤ i' → i' ≤ (t'.length : Int) → z8 t' 0 = z8 (t'.drop i'.toNat) i' → t'.length * 1000 + (t'.length - i'.toNat) < t.length * 1000 + (t.length - i.toNat) → k1 (i', q', t') = some (wQ t'.length q' t') ∧ k2 (i', q', t') = some (wQ t'.length q' t')) →
   (bif (decide ((Go.IntKind.wrap .i64 (i + (1 : Int))) < ((List.length t : Nat) : Int))) then if (0 : Int) ≤ i then if i < ((List.length t : Nat) : Int) then Option.bind (yN (yh t i)) fun r5 => if (0 : Int) ≤ (Go.IntKind.wrap .i64 (i + (1 : Int))) then if (Go.IntKind.wrap .i64 (i + (1 : Int))) < ((List.length t : Nat) : Int) then Option.bind (yN (yh t (Go.IntKind.wrap .i64 (i + (1 : Int))))) fun r6 => if (List.length r5 + List.length r6) * 40 < 140737488355328 then bif (decide (((List.length (r5 ++ r6) : Nat) : Int) ≤ (6 : Int))) then if (0 : Int) ≤ i then if i < ((List.length q : Nat) : Int) then Option.bind (zq (r5 ++ r6)) fun r7 => Option.bind (zW (q, t, i, (2 : Int), ([(zl q i)] : List ye), ([r7] : List y8))) fun r8 => k1 ((Go.IntKind.wrap .i64 ((-1 : Int) + (1 : Int))), r8.1, r8.2) else none else none else k2 ((Go.IntKind.wrap .i64 (i + (1 : Int))), q, t) else none else none else none else none else none else some (q, t)) = some (wQ t.length q t) := by
  intro i q t k1 k2 h hq i0 i1 hpi hk
  have hl := h.len
  have hw : Go.IntKind.wrap .i64 (i + 1) = i + 1 := w64 (by omega) (by omega)
  have hw0 : Go.IntKind.wrap .i64 (-1 + 1) = 0 := rfl
  simp only [hw, hw0]
  by_cases hi : i + 1 < (t.length : Int)
  ·have g1 := (nk h i0 (show i < (t.length : Int) by omega)).keys
   have g2 := (nk h (show 0 ≤ i + 1 by omega) hi).keys
   rw [ycx t i i0 hi] at hpi
   simp only [y4Y h i0 (show i < (t.length : Int) by omega), y4Y h (show 0 ≤ i + 1 by omega) hi, Option.bind_some]
   rw [decide_eq_true hi, cond_true, if_pos i0, if_pos (by omega), if_pos (by omega), if_pos hi, if_pos (by omega)]
   by_cases h6 : (z4 (yh t i)).length + (z4 (yh t (i + 1))).length ≤ 6
   ·rw [if_pos h6] at hpi
    subst hpi
    have hp : ¬ z8 t 0 < 0 := by omega
    have hT := ybr h hp
    have hL := ycy h hq hp
    rw [decide_eq_true (show ((List.length (z4 (yh t (z8 t 0)) ++ z4 (yh t (z8 t 0 + 1))) : Nat) : Int) ≤ 6 by rw [List.length_append]; omega), cond_true, if_pos i0, if_pos (by omega), kv _ (by rw [List.length_append]; omega)]
    simp only [Option.bind_some]
    rw [KV q t _ 2 _ _ i0 (by decide) (by omega) (by omega) (by omega) (by omega) (by simp) (by simp)]
    simp only [Option.bind_some]
    rw [y6j h hq hp, ← hL.1]
    exact (hk 0 (zw q (z8 t 0).toNat 2 [q.getD (z8 t 0).toNat 0]) (zw t (z8 t 0).toNat 2 [zt (z4 (yh t (z8 t 0)) ++ z4 (yh t (z8 t 0 + 1)))]) hT (hL.2.trans hL.1.symm) (Int.le_refl _) (by omega) rfl (by omega)).1
   ·rw [if_neg h6] at hpi
    rw [decide_eq_false (show ¬ ((List.length (z4 (yh t i) ++ z4 (yh t (i + 1))) : Nat) : Int) ≤ 6 by rw [List.length_append]; omega), cond_false]
    exact (hk (i + 1) q t h hq (by omega) (by omega) hpi (by omega)).2
  ·rw [y4X (t.drop i.toNat) i (by rw [List.length_drop]; omega)] at hpi
   rw [decide_eq_false hi, y9K _ (by omega)]
   rfl
 refine Ys (step := V6 _ _) (fun x : (Int × List Int × List y8) ⊕ (Int × List Int × List y8) => (Sum.elim id id x).2.2.length * 1000 + ((Sum.elim id id x).2.2.length - (Sum.elim id id x).1.toNat)) (fun x => TS (Sum.elim id id x).2.2 ∧ (Sum.elim id id x).2.1.length = (Sum.elim id id x).2.2.length ∧ 0 ≤ (Sum.elim id id x).1 ∧ (Sum.elim id id x).1 ≤ ((Sum.elim id id x).2.2.length : Int) ∧ z8 (Sum.elim id id x).2.2 0 = z8 ((Sum.elim id id x).2.2.drop (Sum.elim id id x).1.toNat) (Sum.elim id id x).1)
  (fun x => some (wQ (Sum.elim id id x).2.2.length (Sum.elim id id x).2.1 (Sum.elim id id x).2.2)) ?_ (Sum.inl (0, q, t)) ⟨h, hq, Int.le_refl _, by simp, rfl⟩ (by simp; omega)
 rintro again (⟨i, q, t⟩ | ⟨i, q, t⟩) ⟨h, hq, i0, i1, hpi⟩ hag
 ·exact key i q t (fun x => again (Sum.inr x)) (fun x => again (Sum.inl x)) h hq i0 i1 hpi fun i' q' t' a1 a2 a3 a4 a5 a6 => ⟨hag (Sum.inr (i', q', t')) ⟨a1, a2, a3, a4, a5⟩ a6, hag (Sum.inl (i', q', t')) ⟨a1, a2, a3, a4, a5⟩ a6⟩
 ·exact key i q t (fun x => again (Sum.inr x)) (fun x => again (Sum.inr x)) h hq i0 i1 hpi fun i' q' t' a1 a2 a3 a4 a5 a6 => ⟨hag (Sum.inr (i', q', t')) ⟨a1, a2, a3, a4, a5⟩ a6, hag (Sum.inr (i', q', t')) ⟨a1, a2, a3, a4, a5⟩ a6⟩
end Go.Proofs.YthgdjjdigalckaaGreat.Pl
namespace Go.Proofs.YthgdjjdigalckaaGreat.Pl
open Go.Proofs.YthgdjjdigalckaaGreat.R Go.Proofs.YthgdjjdigalckaaGreat.XC
theorem ycz : ∀ (n : List ya) (s : Int), 0 ≤ s → s + 60 * n.length ≤ 1000 → (∀ a ∈ n, List.length a ≤ 60) → n.foldl y1g s = s + W4 Vi n
 | [], s, _, _, _ => by simp [W4]
 | a :: n, s, h0, hb, ha => by
  have h1 := ha a (by simp)
  rw [List.length_cons] at hb
  have hw : y1g s a = s + (List.length a : Int) := w64 (by omega) (by omega)
  have e : Vi a = (List.length a : Int) := rfl
  rw [List.foldl_cons, hw, ycz n _ (by omega) (by omega) fun b hm => ha b (by simp [hm]), Y1, e]
  omega
theorem jb {n : List ya} (h : Ym n = true) : n.length ≤ 3 ∧ W4 Vi n ≤ 8 ∧ ∀ s ∈ n, ∀ k ∈ (show List y9 from s), w3 k = true := by
 obtain ⟨h1, h2⟩ := y4T h
 have h3 := ycz n 0 (Int.le_refl _) (by omega) fun a ha => (y8o (h2 a ha)).1
 unfold Ym at h
 simp only [Bool.and_eq_true, decide_eq_true_eq] at h
 exact ⟨h1, by omega, fun s hs => (y8o (h2 s hs)).2⟩
theorem y2e {n : List ya} (h : Ym n = true) : NS n := ⟨by have := (jb h).1; omega, by have := (jb h).2.1; omega⟩
theorem y2f {q : List Int} {t : List y8} (h : YR q t = true) : TS t := by
 obtain ⟨h1, h2, h3, h4⟩ := wz h
 exact ⟨by omega, fun n hn => y2e (h4 n hn)⟩
theorem ybs {q : List Int} {t : List y8} (h : YR q t = true) : q.getD 0 0 = 0 := by
 unfold YR at h
 simp only [Bool.and_eq_true, beq_iff_eq] at h
 exact h.2.2.1
theorem y35 (q : List Int) (sp : Int) (h : q.getD 0 0 ≤ sp) : ∀ n, 0 ≤ KG q sp (n + 1)
 | 0 => by
  rw [KG, if_pos h]
  simp
 | n + 1 => by
  rw [KG]
  split
  ·omega
  ·exact y35 q sp h n
theorem yhs {k : y9} (h : w3 k = true) : 0 ≤ wA k.1 k.2.1 := by
 unfold w3 at h
 simp only [Bool.and_eq_true, jS] at h
 obtain ⟨h1, h2, _⟩ := h
 unfold wA
 rw [w64 (n := (64 : Int) * k.1) (by omega) (by omega), w64 (by omega) (by omega)]
 omega
theorem yht {n : List ya} {k : y9} (hn : Ym n = true) (hk : w3 k = true) (h : (zs n k).2 = false) : 8 < (jU n k).length := by
 unfold zs at h
 split at h
 ·cases h
 ·split at h
  ·assumption
  ·rename_i h8
   have hok : Ym (zt (jU n k)) = true := ydm (y9D (y6b k (yfe n))) (fun x hx => by
    rcases y6c (y9E hx) with rfl | hx
    ·exact hk
    ·obtain ⟨c, hc, hx⟩ := yff hx
     exact (jb hn).2.2 c hc x hx) (by omega)
   rw [if_pos hok] at h
   cases h
theorem y2F {n : List ya} (k : y9) (h : NS n) (h2 : n.length ≤ 900 ∧ W4 Vi n ≤ 900) : NS (zs n k).1 := by
 have h1 := y2E n k
 have h3 := y2c n k
 have h4 := V9 n
 unfold zs
 split
 ·exact ⟨by simp only; omega, by simp only; omega⟩
 ·split
  ·exact h
  ·split
   ·exact qE (by omega)
   ·exact h
def zp (q : List Int) (k : y9) : Nat := (KG q (wA k.1 k.2.1) q.length).toNat
def vf (l : List y9) : Nat := (l.length + 1) / 2
def yF (q : List Int) (t : List y8) (k : y9) : List Int × List y8 :=
 if (zs (t.getD (zp q k) yB) k).2 = false then
  (zw q (zp q k) 1 [q.getD (zp q k) 0, ybm ((jU (t.getD (zp q k) yB) k).getD (vf (jU (t.getD (zp q k) yB) k)) z6)],
   zw t (zp q k) 1 [zt ((jU (t.getD (zp q k) yB) k).take (vf (jU (t.getD (zp q k) yB) k))), zt ((jU (t.getD (zp q k) yB) k).drop (vf (jU (t.getD (zp q k) yB) k)))])
 else if 0 < zp q k ∧ (z4 (zs (t.getD (zp q k) yB) k).1).length = 0 then (zw q (zp q k) 1 [], zw t (zp q k) 1 [])
 else (q, t.set (zp q k) (zs (t.getD (zp q k) yB) k).1)
def yw (q : List Int) (t : List y8) (k : y9) : List Int × List y8 × Bool :=
 if (YR q t && w3 k) = true then
  (if YR (wQ (yF q t k).2.length (yF q t k).1 (yF q t k).2).1 (wQ (yF q t k).2.length (yF q t k).1 (yF q t k).2).2 = true then
   ((wQ (yF q t k).2.length (yF q t k).1 (yF q t k).2).1, (wQ (yF q t k).2.length (yF q t k).1 (yF q t k).2).2, true) else (q, t, false))
 else (q, t, false)
theorem y8s : ∀ (m : Nat) (q : List Int) (t : List y8), TS t → TS (wQ m q t).2
 | 0, _, _, h => h
 | m + 1, q, t, h => by
  rw [wQ]
  split
  ·exact h
  ·rename_i hp
   exact y8s m _ _ (ybr h hp)
section
variable {q : List Int} {t : List y8} {k : y9} (h : YR q t = true) (hk : w3 k = true)
include h hk
theorem y47 : (KG q (wA k.1 k.2.1) q.length) = (zp q k : Int) ∧ zp q k < t.length ∧ zp q k < q.length := by
 obtain ⟨h1, h2, h3, h4⟩ := wz h
 have h5 := y35 q (wA k.1 k.2.1) (by rw [ybs h]; exact yhs hk) (q.length - 1)
 rw [show q.length - 1 + 1 = q.length by omega] at h5
 have h6 := y6g q (wA k.1 k.2.1) q.length
 unfold zp
 omega
theorem y0y : Ym (t.getD (zp q k) yB) = true := by
 have h1 := (y47 h hk).2.1
 rw [y0t _ _ _ h1]
 exact (wz h).2.2.2 _ (List.getElem_mem _)
theorem ybt (hm : (zs (t.getD (zp q k) yB) k).2 = false) : vf (jU (t.getD (zp q k) yB) k) < (jU (t.getD (zp q k) yB) k).length ∧ (jU (t.getD (zp q k) yB) k).length ≤ 9 := by
 have h1 := yht (y0y h hk) hk hm
 have h2 := y2c (t.getD (zp q k) yB) k
 have h3 := V9 (t.getD (zp q k) yB)
 have h4 := (jb (y0y h hk)).2.1
 unfold vf
 omega
theorem y6k : TS (yF q t k).2 ∧ (yF q t k).1.length = (yF q t k).2.length := by
 obtain ⟨h1, h2, h3, h4⟩ := wz h
 obtain ⟨g0, g1, g2⟩ := y47 h hk
 have hT := y2f h
 have hn := jb (y0y h hk)
 unfold yF
 split
 ·rename_i hm
  have hh := ybt h hk hm
  refine ⟨hT.splice (by rw [JY _ _ _ _ (by omega)]; simp only [List.length_cons, List.length_nil]; omega) fun n hn => ?_, by rw [JY _ _ _ _ (by omega), JY _ _ _ _ (by omega)]; simp only [List.length_cons, List.length_nil]; omega⟩
  simp only [List.mem_cons, List.mem_nil_iff, or_false] at hn
  rcases hn with rfl | rfl
  ·exact qE (by rw [List.length_take]; omega)
  ·exact qE (by rw [List.length_drop]; omega)
 ·split
  ·refine ⟨hT.splice (by rw [JY _ _ _ _ (by omega)]; simp only [List.length_nil]; omega) (fun n hn => by cases hn), by rw [JY _ _ _ _ (by omega), JY _ _ _ _ (by omega)]; simp only [List.length_nil]; omega⟩
  ·refine ⟨⟨by simp only [List.length_set]; omega, fun n hn2 => (List.mem_or_eq_of_mem_set hn2).elim (hT.node n) fun e => e ▸ y2F k (y2e (y0y h hk)) (by omega)⟩, by simp only [List.length_set]; omega⟩
end
theorem jc (q : List Int) (t : List y8) (a b c d e : Int) (hT : TOk t) (hQ : ∀ n ∈ t, y3o n) (hq : q.length ≤ 1048576) : zI (q, t, a, b, c, d, e) = some (yw q t (a, b, c, d, e)) := by
 unfold zI yw
 simp only [VW q t hq hT.len hQ, VQ q t hT, y24, Option.bind_some]
 cases h : YR q t with
 | false => rfl
 | true =>
  cases hk : w3 (a, b, c, d, e) with
  | false => rfl
  | true =>
   obtain ⟨h1, h2, h3, h4⟩ := wz h
   obtain ⟨g0, g1, g2⟩ := y47 h hk
   have hNS := y2e (y0y h hk)
   have hnf := jb (y0y h hk)
   have hP := y6k h hk
   have hJ := y8s (yF q t (a, b, c, d, e)).2.length (yF q t (a, b, c, d, e)).1 (yF q t (a, b, c, d, e)).2 hP.1
   have ern : yh t (zp q (a, b, c, d, e) : Int) = t.getD (zp q (a, b, c, d, e)) yB := by
    show t.getD ((zp q (a, b, c, d, e) : Int)).toNat yB = _
    rw [Int.toNat_natCast]
   have erq : zl q (zp q (a, b, c, d, e) : Int) = q.getD (zp q (a, b, c, d, e)) 0 := by
    show q.getD ((zp q (a, b, c, d, e) : Int)).toNat 0 = _
    rw [Int.toNat_natCast]
   have hfin : ∀ p : List Int × List y8, p = yF q t (a, b, c, d, e) → (Option.bind (Z8 (p.1, p.2)) fun r15 => Option.bind (Y9 (r15.1, r15.2)) fun r16 => bif (!r16) then some (q, t, false) else some (r15.1, r15.2, true)) = some (if YR (wQ (yF q t (a, b, c, d, e)).2.length (yF q t (a, b, c, d, e)).1 (yF q t (a, b, c, d, e)).2).1 (wQ (yF q t (a, b, c, d, e)).2.length (yF q t (a, b, c, d, e)).1 (yF q t (a, b, c, d, e)).2).2 = true then ((wQ (yF q t (a, b, c, d, e)).2.length (yF q t (a, b, c, d, e)).1 (yF q t (a, b, c, d, e)).2).1, (wQ (yF q t (a, b, c, d, e)).2.length (yF q t (a, b, c, d, e)).1 (yF q t (a, b, c, d, e)).2).2, true) else (q, t, false)) := by
    rintro p rfl
    simp only [y9L _ _ hP.1 hP.2, Option.bind_some, VQ _ _ hJ.ok]
    cases YR (wQ (yF q t (a, b, c, d, e)).2.length (yF q t (a, b, c, d, e)).1 (yF q t (a, b, c, d, e)).2).1 (wQ (yF q t (a, b, c, d, e)).2.length (yF q t (a, b, c, d, e)).1 (yF q t (a, b, c, d, e)).2).2 <;> rfl
   simp only [Bool.not_true, cond_false, Option.bind_some, y0v q t a b hq, show KG q (wA a b) q.length = (zp q (a, b, c, d, e) : Int) from g0, ern, erq, Bool.and_self, if_true]
   rw [if_pos (by omega), if_pos (by omega), y0x _ a b c d e hNS]
   simp only [Option.bind_some]
   rw [if_pos (by omega), if_pos (by omega), qZ q t _ _ _ (by omega) (by omega) (by omega) (by omega) (by omega) (by simp) (by simp)]
   simp only [Option.bind_some, Int.toNat_natCast]
   cases hm : (zs (t.getD (zp q (a, b, c, d, e)) yB) (a, b, c, d, e)).2 with
   | false =>
    have hh := ybt h hk hm
    have hkn := (hNS.keys)
    have hsl := JX (z4 (t.getD (zp q (a, b, c, d, e)) yB)) (a, b, c, d, e)
    have e1 : zT (JZ (z4 (t.getD (zp q (a, b, c, d, e)) yB)) (a, b, c, d, e)) = some (jU (t.getD (zp q (a, b, c, d, e)) yB) (a, b, c, d, e)) := y0n _ (by omega)
    have hput := yF.eq_1 q t (a, b, c, d, e)
    rw [if_pos hm] at hput
    generalize hW : jU (t.getD (zp q (a, b, c, d, e)) yB) (a, b, c, d, e) = W at hh e1 hput
    have hwr : Go.IntKind.wrap .i64 (Int.tdiv (Go.IntKind.wrap .i64 (((List.length W : Nat) : Int) + (1 : Int))) (2 : Int)) = (vf W : Int) := by
     rw [w64 (n := ((List.length W : Nat) : Int) + 1) (by omega) (by omega), Int.tdiv_eq_ediv_of_nonneg (by omega)]
     unfold vf
     rw [w64 (by omega) (by omega)]
     omega
    simp only [Bool.not_false, cond_true, Z0 _ (Nat.le_trans hNS.len (by decide)) (Int.le_trans hNS.sum (by decide)), wx _ a b c d e (show (z4 (t.getD (zp q (a, b, c, d, e)) yB)).length ≤ 1073741824 by omega), e1, Option.bind_some, hwr, Int.toNat_natCast]
    rw [if_pos (by omega), if_pos (by omega), if_pos (by omega), if_pos (by omega), if_pos (by omega), if_pos (by omega)]
    have e2 : JI ((y0 W (vf W : Int)).1, (y0 W (vf W : Int)).2.1, (y0 W (vf W : Int)).2.2.1, (y0 W (vf W : Int)).2.2.2.1, (y0 W (vf W : Int)).2.2.2.2) = some (ybm (W.getD (vf W) z6)) := by
     have e3 : y0 W (vf W : Int) = W.getD (vf W) z6 := by
      show W.getD ((vf W : Int)).toNat z6 = _
      rw [Int.toNat_natCast]
     rw [e3]
     rfl
    rw [e2]
    simp only [Option.bind_some]
    rw [if_pos (by omega), if_pos (by omega), if_pos (by omega), JF _ (by simp only [List.length_drop, List.length_take]; omega)]
    simp only [Option.bind_some]
    rw [if_pos (by omega), if_pos (by omega), if_pos (by omega), JF _ (by simp only [List.length_drop, List.length_take]; omega)]
    simp only [Option.bind_some]
    rw [qZ q t _ _ _ (by omega) (by omega) (by omega) (by omega) (by omega) (by simp) (by simp)]
    simp only [Option.bind_some, Int.toNat_natCast, List.take_length]
    exact hfin _ hput.symm
   | true =>
    have hP2 := y2F (a, b, c, d, e) hNS (by omega)
    have hnm : ¬ (zs (t.getD (zp q (a, b, c, d, e)) yB) (a, b, c, d, e)).2 = false := by rw [hm]; simp
    simp only [Bool.not_true, cond_false, Z0 _ (Nat.le_trans hP2.len (by decide)) (Int.le_trans hP2.sum (by decide)), Option.bind_some]
    have hput := yF.eq_1 q t (a, b, c, d, e)
    rw [if_neg hnm] at hput
    have h3 : (bif decide ((zp q (a, b, c, d, e) : Int) > 0) then some (((List.length (z4 (zs (t.getD (zp q (a, b, c, d, e)) yB) (a, b, c, d, e)).1) : Nat) : Int) == 0) else some false) = some (decide (0 < zp q (a, b, c, d, e) ∧ (z4 (zs (t.getD (zp q (a, b, c, d, e)) yB) (a, b, c, d, e)).1).length = 0)) := by
     by_cases i0 : 0 < zp q (a, b, c, d, e)
     ·rw [decide_eq_true (show (zp q (a, b, c, d, e) : Int) > 0 by omega), cond_true]
      congr 1
      by_cases i1 : (z4 (zs (t.getD (zp q (a, b, c, d, e)) yB) (a, b, c, d, e)).1).length = 0
      ·rw [decide_eq_true ⟨i0, i1⟩]
       exact beq_iff_eq.2 (by omega)
      ·rw [decide_eq_false (fun hh => i1 hh.2)]
       exact beq_eq_false_iff_ne.2 (by omega)
     ·rw [decide_eq_false (show ¬ (zp q (a, b, c, d, e) : Int) > 0 by omega), decide_eq_false (fun hh => i0 hh.1)]
      rfl
    rw [h3]
    simp only [Option.bind_some]
    by_cases hz : 0 < zp q (a, b, c, d, e) ∧ (z4 (zs (t.getD (zp q (a, b, c, d, e)) yB) (a, b, c, d, e)).1).length = 0
    ·rw [if_pos hz] at hput
     rw [decide_eq_true hz, cond_true, qZ q t _ _ _ (by omega) (by omega) (by omega) (by omega) (by omega) (by simp) (by simp)]
     simp only [Option.bind_some, Int.toNat_natCast]
     exact hfin _ hput.symm
    ·rw [if_neg hz] at hput
     rw [decide_eq_false hz, cond_false]
     rw [y6h q _ _ (by omega), y6h t _ _ (by omega)]
     refine hfin (q.set (zp q (a, b, c, d, e)) (q.getD (zp q (a, b, c, d, e)) 0), t.set (zp q (a, b, c, d, e)) (zs (t.getD (zp q (a, b, c, d, e)) yB) (a, b, c, d, e)).1) ?_
     rw [hput, y0t _ _ _ (by omega), List.set_getElem_self]
theorem Vd (q : List Int) (t : List y8) (a b c d e : Int) (hT : TOk t) (hQ : ∀ n ∈ t, y3o n) (hq : q.length ≤ 1048576) : Zx (q, t, a, b, c, d, e) = some (yw q t (a, b, c, d, e)) := by
 unfold Zx yw
 simp only [Qp q t hq hT.len hQ, VR q t hT, y25, Option.bind_some]
 cases h : YR q t with
 | false => rfl
 | true =>
  cases hk : w3 (a, b, c, d, e) with
  | false => rfl
  | true =>
   obtain ⟨h1, h2, h3, h4⟩ := wz h
   obtain ⟨g0, g1, g2⟩ := y47 h hk
   have hNS := y2e (y0y h hk)
   have hnf := jb (y0y h hk)
   have hP := y6k h hk
   have hJ := y8s (yF q t (a, b, c, d, e)).2.length (yF q t (a, b, c, d, e)).1 (yF q t (a, b, c, d, e)).2 hP.1
   have ern : yh t (zp q (a, b, c, d, e) : Int) = t.getD (zp q (a, b, c, d, e)) yB := by
    show t.getD ((zp q (a, b, c, d, e) : Int)).toNat yB = _
    rw [Int.toNat_natCast]
   have erq : zl q (zp q (a, b, c, d, e) : Int) = q.getD (zp q (a, b, c, d, e)) 0 := by
    show q.getD ((zp q (a, b, c, d, e) : Int)).toNat 0 = _
    rw [Int.toNat_natCast]
   have hfin : ∀ p : List Int × List y8, p = yF q t (a, b, c, d, e) → (Option.bind (Zk (p.1, p.2)) fun r15 => Option.bind (Yb (r15.1, r15.2)) fun r16 => bif (!r16) then some (q, t, false) else some (r15.1, r15.2, true)) = some (if YR (wQ (yF q t (a, b, c, d, e)).2.length (yF q t (a, b, c, d, e)).1 (yF q t (a, b, c, d, e)).2).1 (wQ (yF q t (a, b, c, d, e)).2.length (yF q t (a, b, c, d, e)).1 (yF q t (a, b, c, d, e)).2).2 = true then ((wQ (yF q t (a, b, c, d, e)).2.length (yF q t (a, b, c, d, e)).1 (yF q t (a, b, c, d, e)).2).1, (wQ (yF q t (a, b, c, d, e)).2.length (yF q t (a, b, c, d, e)).1 (yF q t (a, b, c, d, e)).2).2, true) else (q, t, false)) := by
    rintro p rfl
    simp only [y5t _ _ hP.1 hP.2, Option.bind_some, VR _ _ hJ.ok]
    cases YR (wQ (yF q t (a, b, c, d, e)).2.length (yF q t (a, b, c, d, e)).1 (yF q t (a, b, c, d, e)).2).1 (wQ (yF q t (a, b, c, d, e)).2.length (yF q t (a, b, c, d, e)).1 (yF q t (a, b, c, d, e)).2).2 <;> rfl
   simp only [Bool.not_true, cond_false, Option.bind_some, y0w q t a b hq, show KG q (wA a b) q.length = (zp q (a, b, c, d, e) : Int) from g0, ern, erq, Bool.and_self, if_true]
   rw [if_pos (by omega), if_pos (by omega), y4W _ a b c d e hNS]
   simp only [Option.bind_some, Int.toNat_natCast]
   cases hm : (zs (t.getD (zp q (a, b, c, d, e)) yB) (a, b, c, d, e)).2 with
   | false =>
    have hh := ybt h hk hm
    have e1 : zK (t.getD (zp q (a, b, c, d, e)) yB, a, b, c, d, e) = some (jU (t.getD (zp q (a, b, c, d, e)) yB) (a, b, c, d, e)) := Qr _ a b c d e hNS
    have hput := yF.eq_1 q t (a, b, c, d, e)
    rw [if_pos hm] at hput
    generalize hW : jU (t.getD (zp q (a, b, c, d, e)) yB) (a, b, c, d, e) = W at hh e1 hput
    have hwr : Go.IntKind.wrap .i64 (Int.tdiv (Go.IntKind.wrap .i64 (((List.length W : Nat) : Int) + (1 : Int))) (2 : Int)) = (vf W : Int) := by
     rw [w64 (n := ((List.length W : Nat) : Int) + 1) (by omega) (by omega), Int.tdiv_eq_ediv_of_nonneg (by omega)]
     unfold vf
     rw [w64 (by omega) (by omega)]
     omega
    simp only [Bool.not_false, cond_true, e1, Option.bind_some, hwr, Int.toNat_natCast]
    rw [if_pos (by omega), if_pos (by omega), if_pos (by omega), if_pos (by omega), if_pos (by omega), if_pos (by omega)]
    have e2 : Ze ((y0 W (vf W : Int)).1, (y0 W (vf W : Int)).2.1) = some (ybm (W.getD (vf W) z6)) := by
     have e3 : y0 W (vf W : Int) = W.getD (vf W) z6 := by
      show W.getD ((vf W : Int)).toNat z6 = _
      rw [Int.toNat_natCast]
     rw [e3]
     rfl
    rw [e2]
    simp only [Option.bind_some]
    rw [if_pos (by omega), if_pos (by omega), if_pos (by omega), kv _ (by simp only [List.length_drop, List.length_take]; omega)]
    simp only [Option.bind_some]
    rw [if_pos (by omega), if_pos (by omega), if_pos (by omega), kv _ (by simp only [List.length_drop, List.length_take]; omega)]
    simp only [Option.bind_some]
    rw [KV q t _ 1 _ _ (by omega) (by decide) (by omega) (by omega) (by omega) (by omega) (by simp) (by simp)]
    simp only [Option.bind_some, Int.toNat_natCast, List.take_length]
    exact hfin _ hput.symm
   | true =>
    have hP2 := y2F (a, b, c, d, e) hNS (by omega)
    have hnm : ¬ (zs (t.getD (zp q (a, b, c, d, e)) yB) (a, b, c, d, e)).2 = false := by rw [hm]; simp
    simp only [Bool.not_true, cond_false, jH _ (Nat.le_trans hP2.len (by decide)) (Int.le_trans hP2.sum (by decide)), Option.bind_some]
    have hput := yF.eq_1 q t (a, b, c, d, e)
    rw [if_neg hnm] at hput
    have h3 : (bif decide ((zp q (a, b, c, d, e) : Int) > 0) then some (((List.length (z4 (zs (t.getD (zp q (a, b, c, d, e)) yB) (a, b, c, d, e)).1) : Nat) : Int) == 0) else some false) = some (decide (0 < zp q (a, b, c, d, e) ∧ (z4 (zs (t.getD (zp q (a, b, c, d, e)) yB) (a, b, c, d, e)).1).length = 0)) := by
     by_cases i0 : 0 < zp q (a, b, c, d, e)
     ·rw [decide_eq_true (show (zp q (a, b, c, d, e) : Int) > 0 by omega), cond_true]
      congr 1
      by_cases i1 : (z4 (zs (t.getD (zp q (a, b, c, d, e)) yB) (a, b, c, d, e)).1).length = 0
      ·rw [decide_eq_true ⟨i0, i1⟩]
       exact beq_iff_eq.2 (by omega)
      ·rw [decide_eq_false (fun hh => i1 hh.2)]
       exact beq_eq_false_iff_ne.2 (by omega)
     ·rw [decide_eq_false (show ¬ (zp q (a, b, c, d, e) : Int) > 0 by omega), decide_eq_false (fun hh => i0 hh.1)]
      rfl
    rw [h3]
    simp only [Option.bind_some]
    by_cases hz : 0 < zp q (a, b, c, d, e) ∧ (z4 (zs (t.getD (zp q (a, b, c, d, e)) yB) (a, b, c, d, e)).1).length = 0
    ·rw [if_pos hz] at hput
     rw [decide_eq_true hz, cond_true, KV q t _ 1 _ _ (by omega) (by decide) (by omega) (by omega) (by omega) (by omega) (by simp) (by simp)]
     simp only [Option.bind_some, Int.toNat_natCast]
     exact hfin _ hput.symm
    ·rw [if_neg hz] at hput
     rw [decide_eq_false hz, cond_false, if_pos (by omega), if_pos (by omega)]
     exact hfin _ hput.symm
end Go.Proofs.YthgdjjdigalckaaGreat.Pl
namespace Go.Proofs.YthgdjjdigalckaaGreat.Pl
open Go.Proofs.YthgdjjdigalckaaGreat.R Go.Proofs.YthgdjjdigalckaaGreat.XC
def Ve (fr id : Int) (x : yd) : yd := if (x.2 == id) = true then (x.1, fr) else x
def yCH (l : List yd) (i : Nat) (id : Int) : List yd := (l.map (Ve (l.getD i Y0).2 id)).eraseIdx i
def y1y (l : List yd) (id : Int) : List yd × Bool := if zZ l id < 0 then (l, false) else if wP l = true then (yCH l (zZ l id).toNat id, true) else (l, false)
theorem y2G (l : List yd) (h : l.length ≤ 1048576) : YO l = some l := by
 unfold YO
 rw [if_pos (by simp only [List.length_nil]; omega)]
 rfl
theorem y48 {A : Type} (p : A → Bool) : ∀ (l : List A) (i : Int), Zn p l i = -1 ∨ i ≤ Zn p l i ∧ Zn p l i < i + l.length
 | [], _ => .inl rfl
 | a :: l, i => by
  rw [Zn]
  split
  ·refine .inr ⟨Int.le_refl _, by simp only [List.length_cons]; omega⟩
  ·rcases y48 p l (i + 1) with h | ⟨h1, h2⟩
   ·exact .inl h
   ·exact .inr ⟨by omega, by simp only [List.length_cons]; omega⟩
theorem y5u (l : List yd) (id : Int) (hl : l.length ≤ 1048576) : JS (l, id) = some (y1y l id) := by
 unfold JS y1y
 simp only [Zo l id (by omega), Kn l hl, Option.bind_some]
 by_cases h0 : zZ l id < 0
 ·rw [decide_eq_true h0, if_pos h0]
  simp only [cond_true, Option.bind_some]
  rw [if_pos (by simp only [List.length_nil]; omega)]
  rfl
 ·rw [decide_eq_false h0, if_neg h0]
  cases hA : wP l with
  | false =>
   simp only [cond_false, Bool.not_false, Option.bind_some, cond_true]
   rw [if_pos (by simp only [List.length_nil]; omega)]
   rfl
  | true =>
   simp only [cond_false, Bool.not_true, Option.bind_some, if_true]
   have hi1 : zZ l id < (l.length : Int) := by
    rcases y48 (fun a : yd => a.1 == id) l 0 with h | ⟨h1, h2⟩
    ·have : zZ l id = -1 := h
     omega
    ·have : zZ l id = Zn (fun a : yd => a.1 == id) l 0 := rfl
     omega
   generalize zZ l id = i at h0 hi1
   unfold y01
   have key := Ys (step := WD (fun x4 => some (x4, true))) (fun x : List yd × Int × Int × Int × List yd => l.length - x.2.2.2.1.toNat) (fun x => x.1 = l ∧ x.2.1 = id ∧ x.2.2.1 = i ∧ 0 ≤ x.2.2.2.1 ∧ x.2.2.2.1 ≤ (l.length : Int) ∧ x.2.2.2.2.length ≤ x.2.2.2.1.toNat)
    (fun x => some (x.2.2.2.2 ++ (if x.2.2.2.1 ≤ i then ((l.drop x.2.2.2.1.toNat).map (Ve (l.getD i.toNat Y0).2 id)).eraseIdx (i - x.2.2.2.1).toNat else (l.drop x.2.2.2.1.toNat).map (Ve (l.getD i.toNat Y0).2 id)), true)) ?_ (l, id, i, 0, []) ⟨rfl, rfl, rfl, Int.le_refl _, by simp, by simp⟩ (by simp; omega)
   ·rw [key]
    simp only [List.nil_append]
    rw [if_pos (by omega), Int.sub_zero]
    rfl
   ·rintro again ⟨l', id', i', j, o⟩ ⟨rfl, rfl, rfl, j0, j1, ho⟩ hag
    simp only at j0 j1 ho hl hi1 h0 ⊢
    unfold WD
    by_cases hj : j < (l'.length : Int)
    ·have hw : Go.IntKind.wrap .i64 (j + 1) = j + 1 := w64 (by omega) (by omega)
     have hd := JC Y0 l' j j0 hj
     have e1 : (j + 1).toNat = j.toNat + 1 := by omega
     have hlen : ∀ y : yd, (List.length o + List.length ([y] : List yd)) * 16 < 140737488355328 := fun y => by simp only [List.length_cons, List.length_nil]; omega
     have hstep : ∀ y, y = Ve (l'.getD i'.toNat Y0).2 id' (l'.getD j.toNat Y0) → (bif (j != i') then if (List.length o + List.length ([y] : List yd)) * 16 < 140737488355328 then again (l', id', i', j + 1, o ++ [y]) else none else again (l', id', i', j + 1, o)) = some (o ++ (if j ≤ i' then ((l'.drop j.toNat).map (Ve (l'.getD i'.toNat Y0).2 id')).eraseIdx (i' - j).toNat else (l'.drop j.toNat).map (Ve (l'.getD i'.toNat Y0).2 id')), true) := by
      rintro y rfl
      rw [hd, List.map_cons]
      by_cases hji : j = i'
      ·rw [show (j != i') = false by simp [hji], cond_false, if_pos (by omega), show (i' - j).toNat = 0 by omega, List.eraseIdx_zero, List.tail_cons]
       have := hag (l', id', i', j + 1, o) ⟨rfl, rfl, rfl, by simp only; omega, by simp only; omega, by simp only; omega⟩ (by simp only; omega)
       rw [this]
       simp only
       rw [if_neg (by omega)]
      ·rw [show (j != i') = true by simpa using hji, cond_true, if_pos (hlen _)]
       have := hag (l', id', i', j + 1, o ++ [Ve (l'.getD i'.toNat Y0).2 id' (l'.getD j.toNat Y0)]) ⟨rfl, rfl, rfl, by simp only; omega, by simp only; omega, by simp only [List.length_append, List.length_cons, List.length_nil]; omega⟩ (by simp only; omega)
       rw [this]
       simp only
       by_cases hlt : j ≤ i'
       ·rw [if_pos hlt, if_pos (by omega), show (i' - j).toNat = (i' - (j + 1)).toNat + 1 by omega, List.eraseIdx_cons_succ, List.append_assoc]
        rfl
       ·rw [if_neg hlt, if_neg (by omega), List.append_assoc]
        rfl
     have hrd : yC l' j = l'.getD j.toNat Y0 := rfl
     simp only [hw]
     rw [decide_eq_true hj, cond_true, if_pos j0, if_pos hj]
     by_cases hid : (l'.getD j.toNat Y0).2 = id'
     ·have hb : ((yC l' j).2 == id') = true := beq_iff_eq.2 hid
      rw [hb, cond_true, if_pos (by omega), if_pos hi1]
      exact hstep _ (by unfold Ve; rw [if_pos (beq_iff_eq.2 hid)]; rfl)
     ·have hb : ((yC l' j).2 == id') = false := beq_eq_false_iff_ne.2 hid
      rw [hb, cond_false]
      exact hstep _ (by unfold Ve; rw [if_neg (by simpa using hid)]; rfl)
    ·rw [decide_eq_false hj, cond_false, List.drop_of_length_le (by omega)]
     simp
theorem y5v (l : List yd) (id : Int) (hl : l.length ≤ 1048576) : kj (l, id) = some (y1y l id) := by
 unfold kj y1y
 simp only [kp l id (by omega), y1h l hl, y2G l hl, Option.bind_some]
 by_cases h0 : zZ l id < 0
 ·rw [decide_eq_true h0, if_pos h0]
  rfl
 ·rw [decide_eq_false h0, if_neg h0]
  cases hA : wP l with
  | false => rfl
  | true =>
   simp only [cond_false, Bool.not_true, Option.bind_some, if_true]
   have hi1 : zZ l id < (l.length : Int) := by
    rcases y48 (fun a : yd => a.1 == id) l 0 with h | ⟨h1, h2⟩
    ·have : zZ l id = -1 := h
     omega
    ·have : zZ l id = Zn (fun a : yd => a.1 == id) l 0 := rfl
     omega
   generalize zZ l id = i at h0 hi1
   unfold y0k
   have key := Ys (step := ki (fun x5 => Option.bind (zQ (x5.2, x5.1, (Go.IntKind.wrap .i64 (x5.1 + (1 : Int))))) fun r6 => some (r6, true))) (fun x : List yd × Int × Int × Int × Int × List yd => l.length - x.2.2.2.2.1.toNat) (fun x => x.1 = l ∧ x.2.1 = id ∧ x.2.2.1 = i ∧ x.2.2.2.1 = ((List.length l : Nat) : Int) ∧ 0 ≤ x.2.2.2.2.1 ∧ x.2.2.2.2.1 ≤ (l.length : Int) ∧ x.2.2.2.2.2.length = l.length)
    (fun x => some ((x.2.2.2.2.2.take x.2.2.2.2.1.toNat ++ (x.2.2.2.2.2.drop x.2.2.2.2.1.toNat).map (Ve (l.getD i.toNat Y0).2 id)).eraseIdx i.toNat, true)) ?_ (l, id, i, ((List.length l : Nat) : Int), 0, l) ⟨rfl, rfl, rfl, rfl, Int.le_refl _, by simp, rfl⟩ (by simp; omega)
   ·rw [key]
    rfl
   ·rintro again ⟨l', id', i', n, j, o⟩ ⟨rfl, rfl, rfl, hn, j0, j1, ho⟩ hag
    simp only at hn j0 j1 ho hl hi1 h0 hag ⊢
    subst hn
    unfold ki
    by_cases hj : j < (l'.length : Int)
    ·have hw : Go.IntKind.wrap .i64 (j + 1) = j + 1 := w64 (by omega) (by omega)
     have hd := JC Y0 o j j0 (by omega)
     have e1 : (j + 1).toNat = j.toNat + 1 := by omega
     have hjo : j < ((List.length o : Nat) : Int) := by omega
     have hnext : ∀ o', o' = o.set j.toNat (Ve (l'.getD i'.toNat Y0).2 id' (o.getD j.toNat Y0)) → again (l', id', i', ((List.length l' : Nat) : Int), j + 1, o') = some ((o.take j.toNat ++ (o.drop j.toNat).map (Ve (l'.getD i'.toNat Y0).2 id')).eraseIdx i'.toNat, true) := by
      rintro o' rfl
      rw [hag (l', id', i', ((List.length l' : Nat) : Int), j + 1, o.set j.toNat (Ve (l'.getD i'.toNat Y0).2 id' (o.getD j.toNat Y0))) ⟨rfl, rfl, rfl, rfl, by simp only; omega, by simp only; omega, by simpa using ho⟩ (by simp only; omega)]
      simp only
      rw [hd, List.map_cons, e1, List.take_succ_eq_append_getElem (by simp; omega), List.take_set_of_le (Nat.le_refl _), List.drop_set_of_lt (by omega)]
      simp
     simp only [hw]
     rw [decide_eq_true hj, cond_true, if_pos j0, if_pos hjo]
     by_cases hid : (o.getD j.toNat Y0).2 = id'
     ·have hb : ((yC o j).2 == id') = true := beq_iff_eq.2 hid
      rw [hb, cond_true, if_pos (by omega), if_pos hi1, if_pos j0, if_pos hjo]
      exact hnext _ (by unfold Ve; rw [if_pos (beq_iff_eq.2 hid)]; rfl)
     ·have hb : ((yC o j).2 == id') = false := beq_eq_false_iff_ne.2 hid
      rw [hb, cond_false]
      refine hnext _ ?_
      unfold Ve
      rw [if_neg (by simpa using hid), y0t _ _ _ (by omega), List.set_getElem_self]
    ·have hjl : j.toNat = o.length := by omega
     have hwi : Go.IntKind.wrap .i64 (i' + 1) = i' + 1 := w64 (by omega) (by omega)
     rw [decide_eq_false hj, cond_false, hjl, List.drop_length, List.take_length, List.map_nil, List.append_nil]
     simp only [hwi]
     unfold zQ
     simp only
     rw [if_pos (by omega), if_pos (by omega), if_pos (by omega)]
     simp only [Option.bind_some]
     rw [show (i' + 1).toNat = i'.toNat + 1 by omega, List.eraseIdx_eq_take_drop_succ]
def y5w (cs : List yb) (i : Int) : List yb := if YS cs = true ∧ 0 ≤ i ∧ i ≤ 23 ∧ (cs.getD i.toNat ZB).2.1 = true then cs.set i.toNat (Int.tmod (Go.IntKind.wrap .i64 ((cs.getD i.toNat ZB).1 + 1)) 1000, false, 0) else cs
theorem y2g (cs : List yb) (i : Int) : (y5w cs i).length = cs.length := by
 unfold y5w
 split
 ·simp
 ·rfl
theorem yfi {cs : List yb} (h : YS cs = true) : cs.length = 24 := by
 unfold YS at h
 simp only [Bool.and_eq_true, beq_iff_eq] at h
 omega
theorem y0P {cs : List yb} {i : Int} (h : ¬ (YS cs = true ∧ 0 ≤ i ∧ i ≤ 23 ∧ (cs.getD i.toNat ZB).2.1 = true)) : y5w cs i = cs := if_neg h
theorem y9M {cs : List yb} {i : Int} (h : YS cs = true ∧ 0 ≤ i ∧ i ≤ 23 ∧ (cs.getD i.toNat ZB).2.1 = true) : y5w cs i = cs.set i.toNat (Int.tmod (Go.IntKind.wrap .i64 ((cs.getD i.toNat ZB).1 + 1)) 1000, false, 0) := if_pos h
theorem wK (cs : List yb) (i : Int) (hc : cs.length ≤ 1048576) : YH (cs, i) = some (y5w cs i) := by
 have e1 : Yv cs = some cs := by
  unfold Yv
  rw [if_pos (by simp only [List.length_nil]; omega)]
  rfl
 unfold YH
 simp only [e1, Va cs hc, Zy, Option.bind_some]
 cases hk : YS cs with
 | false =>
  rw [y0P fun h => by rw [hk] at h; cases h.1]
  rfl
 | true =>
  have h24 := yfi hk
  have hw : Go.IntKind.wrap .i64 ((cs.length : Int) - 1) = 23 := by rw [w64 (by omega) (by omega)]; omega
  simp only [hw, cond_true, Option.bind_some]
  cases hi : inR i 0 23 with
  | false =>
   have : ¬ (0 ≤ i ∧ i ≤ 23) := fun h => by rw [jS.2 h] at hi; cases hi
   rw [y0P fun h => this ⟨h.2.1, h.2.2.1⟩]
   rfl
  | true =>
   obtain ⟨i0, i1⟩ := jS.1 hi
   rw [cond_true, if_pos i0, if_pos (by omega)]
   have hrd : yA cs i = cs.getD i.toNat ZB := rfl
   rw [hrd]
   cases hu : (cs.getD i.toNat ZB).2.1 with
   | false =>
    rw [y0P fun h => by have := h.2.2.2; rw [hu] at this; cases this]
    rfl
   | true =>
    simp only [Option.bind_some, cond_true]
    rw [if_pos i0, if_pos (by omega), if_pos i0, if_pos (by omega), y9M ⟨hk, i0, i1, hu⟩]
theorem y3p (cs : List yb) (i : Int) (hc : cs.length ≤ 1048576) : Jz (cs, i) = some (y5w cs i) := by
 have e1 : Yk cs = some cs := by
  unfold Yk
  rw [if_pos (by simp only [List.length_nil]; omega)]
  rfl
 unfold Jz
 simp only [e1, y0s cs hc, jI, Option.bind_some]
 cases hk : YS cs with
 | false =>
  rw [y0P fun h => by rw [hk] at h; cases h.1]
  rfl
 | true =>
  have h24 := yfi hk
  simp only [Bool.not_true, cond_false, Option.bind_some]
  cases hi : inR i 0 23 with
  | false =>
   have : ¬ (0 ≤ i ∧ i ≤ 23) := fun h => by rw [jS.2 h] at hi; cases hi
   rw [y0P fun h => this ⟨h.2.1, h.2.2.1⟩]
   rfl
  | true =>
   obtain ⟨i0, i1⟩ := jS.1 hi
   rw [Bool.not_true, cond_false, if_pos i0, if_pos (by omega)]
   have hrd : yA cs i = cs.getD i.toNat ZB := rfl
   rw [hrd]
   cases hu : (cs.getD i.toNat ZB).2.1 with
   | false =>
    rw [y0P fun h => by have := h.2.2.2; rw [hu] at this; cases this]
    rfl
   | true =>
    simp only [Option.bind_some, Bool.not_true, cond_false]
    rw [if_pos i0, if_pos (by omega), if_pos i0, if_pos (by omega), y9M ⟨hk, i0, i1, hu⟩]
end Go.Proofs.YthgdjjdigalckaaGreat.Pl
namespace Go.Proofs.YthgdjjdigalckaaGreat.Pl
open Go.Proofs.YthgdjjdigalckaaGreat.R Go.Proofs.YthgdjjdigalckaaGreat.XC
def y9N (l : List yd) (vs : List yl) (id : Int) : Bool := y2D vs id && ((zE l id).length : Int) == 1
def YT (q : List Int) (t : List y8) (l : List yd) (vs : List yl) (step : Int) (k : y9) : Bool :=
 if step = 1 then !y0p t l vs k else if step = 2 then (k.2.2.1 == 2) && !(y6f t l k.1 k.2.1).1 else
  y9N l vs k.2.1 && !(JE q t k.1 ((zE l k.2.1).getD 0 0)).2.2.2.2.2
theorem yhu (l : List yd) (id : Int) : ∀ x ∈ zE l id, ∃ a ∈ l, a.1 = x := by
 have : ∀ (l : List yd) (s : List Int) (x : Int), x ∈ l.foldl (y0r id) s → x ∈ s ∨ ∃ a ∈ l, a.1 = x := by
  intro l
  induction l with
  | nil => intro s x h; exact .inl h
  | cons a l ih =>
   intro s x h
   rw [List.foldl_cons] at h
   rcases ih _ x h with h | ⟨b, hb, e⟩
   ·unfold y0r at h
    split at h
    ·rcases List.mem_append.1 h with h | h
     ·exact .inl h
     ·exact .inr ⟨a, by simp, (by simpa using h : x = a.1).symm⟩
    ·exact .inl h
   ·exact .inr ⟨b, by simp [hb], e⟩
 intro x hx
 rcases this l [] x hx with h | h
 ·simp at h
 ·exact h
theorem ycA {A : Type} {p : A → Bool} : ∀ (l : List A) (i : Int), Yl (fun _ a => p a) l i = false → ∀ a ∈ l, p a = false
 | b :: l, i, h, a, ha => by
  rw [Yl, Bool.or_eq_false_iff] at h
  rcases List.mem_cons.1 ha with rfl | ha
  ·exact h.1
  ·exact ycA l (i + 1) h.2 a ha
theorem yhv {l : List yd} (h : wP l = true) : ∀ a ∈ l, 1 ≤ a.1 := by
 unfold wP y9w at h
 simp only [Bool.and_eq_true, Bool.not_eq_true'] at h
 have h1 := h.1
 rw [ybk, Bool.or_eq_false_iff] at h1
 intro a ha
 have := ycA (p := fun a : yd => !inR a.1 1 60) l 0 h1.1 a ha
 simp only [Bool.not_eq_false'] at this
 exact (jS.1 this).1
section
variable (q : List Int) (t : List y8) (l : List yd) (cs : List yb) (vs : List yl) (z : Int)
theorem y4Z (ht : TOk t) (hq : q.length ≤ 1048576) (hl : l.length ≤ 1048576) (hv : vs.length ≤ 1048576) (hpos : ∀ a ∈ l, 1 ≤ a.1) (step : Int) (k1 k2 k3 k4 k5 : Int) : WA (q, t, l, cs, vs, z, step, k1, k2, k3, k4, k5) = some (YT q t l vs step (k1, k2, k3, k4, k5)) := by
 unfold WA YT
 simp only [Bool.cond_eq_ite, beq_iff_eq, Ka q t l cs vs z k1 k2 k3 k4 k5 ht hl hv, y29 q t l k1 k2 ht hl, Option.bind_some]
 by_cases h1 : step = 1
 ·simp only [h1, if_true]
 by_cases h2 : step = 2
 ·subst h2
  simp only [if_true, if_neg (show ¬ (2 : Int) = 1 by omega)]
  by_cases h3 : k3 = 2
  ·have : (k3 == 2) = true := by simp [h3]
   rw [this, if_pos h3]
   rfl
  ·have : (k3 == 2) = false := by simpa using h3
   rw [this, if_neg h3]
   rfl
 simp only [h1, h2, if_false]
 unfold Ki Za y9N
 simp only [Ko l k2 hl, y0u q t l cs vs z k2 hv, Option.bind_some]
 cases y2D vs k2
 ·rfl
 by_cases hk : ((zE l k2).length : Int) = 1
 ·have g1 : (((zE l k2).length : Int) != 1) = false := by simp [hk]
  have g2 : (((zE l k2).length : Int) == 1) = true := by simp [hk]
  have hlt : (0 : Int) < ((zE l k2).length : Int) := by omega
  have hne : ((zE l k2).getD 0 0 == 0) = false := by
   have hm : (zE l k2).getD 0 0 ∈ zE l k2 := zg 0 (zE l k2) 0 (Int.le_refl _) hlt
   obtain ⟨a, ha, e⟩ := yhu l k2 _ hm
   have := hpos a ha
   simp only [beq_eq_false_iff_ne, ne_eq]
   omega
  have hx : zl (zE l k2) 0 = (zE l k2).getD 0 0 := rfl
  simp only [g1, g2, hlt, Bool.not_true, cond_false, cond_true, Option.bind_some, Int.le_refl, if_true, hx, hne, Kq q t k1 _ ht hq, Bool.true_and, Bool.and_self, Bool.and_true, Bool.true_and]
 ·have g1 : (((zE l k2).length : Int) != 1) = true := by simpa using hk
  have g2 : (((zE l k2).length : Int) == 1) = false := by simpa using hk
  simp only [g1, g2]
  rfl
theorem y50 (ht : TOk t) (hq : q.length ≤ 1048576) (hl : l.length ≤ 1048576) (hv : vs.length ≤ 1048576) (step : Int) (k1 k2 k3 k4 k5 : Int) : wu (q, t, l, cs, vs, z, step, k1, k2, k3, k4, k5) = some (YT q t l vs step (k1, k2, k3, k4, k5)) := by
 unfold wu YT
 simp only [Bool.cond_eq_ite, beq_iff_eq, Kb q t l cs vs z k1 k2 k3 k4 k5 ht hl hv, y8q q t l k1 k2 ht hl, Option.bind_some]
 by_cases h1 : step = 1
 ·simp only [h1, if_true]
 by_cases h2 : step = 2
 ·subst h2
  simp only [if_true, if_neg (show ¬ (2 : Int) = 1 by omega)]
  by_cases h3 : k3 = 2
  ·have : (k3 == 2) = true := by simp [h3]
   rw [this, if_pos h3]
   rfl
  ·have : (k3 == 2) = false := by simpa using h3
   rw [this, if_neg h3]
   rfl
 simp only [h1, h2, if_false]
 unfold y9N
 simp only [Kp l k2 hl, y33 q t l cs vs z k2 hv, Option.bind_some]
 cases y2D vs k2
 ·rfl
 by_cases hk : ((zE l k2).length : Int) = 1
 ·have g1 : (((zE l k2).length : Int) != 1) = false := by simp [hk]
  have g2 : (((zE l k2).length : Int) == 1) = true := by simp [hk]
  have hlt : (0 : Int) < ((zE l k2).length : Int) := by omega
  have hx : zl (zE l k2) 0 = (zE l k2).getD 0 0 := rfl
  simp only [g1, g2, hlt, Bool.not_true, Bool.false_eq_true, if_false, Option.bind_some, Int.le_refl, if_true, hx, y1j q t k1 _ ht hq, Bool.true_and, Bool.and_self, Bool.and_true, Bool.true_and]
 ·have g1 : (((zE l k2).length : Int) != 1) = true := by simpa using hk
  have g2 : (((zE l k2).length : Int) == 1) = false := by simpa using hk
  simp only [g1, g2]
  rfl
def y8t (id : Int) (_ : Int) (k : y9) : Bool := k.2.1 == id
def yjh (ks : List y9) (l : List yd) (vs : List yl) (a : yd) : Bool := !Yl (y8t a.1) ks 0 && (y2D vs a.1 && decide (((zE l a.1).length : Int) ≤ 1))
theorem ybu (ht : TOk t) (hl : l.length ≤ 1048576) (hv : vs.length ≤ 1048576) (a : yd) : WB (q, t, l, cs, vs, z, a.1) = some (yjh (zb t) l vs a) := by
 unfold WB y00 yjh
 have hk := ht.keys
 have e : yu (q, t) = some (zb t) := zz q t (by have := ht.len; omega) ht.nodes ht.sum
 simp only [e, Option.bind_some]
 generalize zb t = ks at hk
 refine (zD (step := Jl _ _) (fun i => (a.1, i, q, t, l, cs, vs, z, ks)) (y8t a.1) (some false) (some (y2D vs a.1 && decide (((zE l a.1).length : Int) ≤ 1))) z6 ks (by omega) ?_ ?_).trans ?_
 ·intro again i h0 h1
  have hw : Go.IntKind.wrap .i64 (i + 1) = i + 1 := w64 (by omega) (by omega)
  unfold Jl y8t
  have hx : ks.getD i.toNat z6 = y0 ks i := rfl
  rw [hx]
  simp only [Bool.cond_eq_ite, decide_eq_true_eq, h0, h1, if_true, hw]
 ·intro again i hi
  unfold Jl
  simp only [Bool.cond_eq_ite, decide_eq_true_eq, if_neg hi, y0u q t l cs vs z a.1 hv, Ko l a.1 hl, Option.bind_some]
  cases y2D vs a.1 <;> rfl
 ·cases Yl (y8t a.1) ks 0 <;> rfl
theorem y51 (ks : List y9) (id : Int) (hk : ks.length ≤ 1048576) : wv (ks, id) = some (Yl (y8t id) ks 0) := by
 unfold wv Qk
 refine (zD (step := jE _ _) (fun i => (id, ks, (ks.length : Int), i)) (y8t id) (some true) (some false) z6 ks (by omega) ?_ ?_).trans ?_
 ·intro again i h0 h1
  have hw : Go.IntKind.wrap .i64 (i + 1) = i + 1 := w64 (by omega) (by omega)
  unfold jE y8t
  have hx : ks.getD i.toNat z6 = y0 ks i := rfl
  rw [hx]
  simp only [Bool.cond_eq_ite, decide_eq_true_eq, h0, h1, if_true, hw]
 ·intro again i hi
  unfold jE
  simp only [Bool.cond_eq_ite, decide_eq_true_eq, if_neg hi]
 ·cases Yl (y8t id) ks 0 <;> rfl
def y52 (q : List Int) (t : List y8) (l : List yd) (vs : List yl) (_ : Int) (_ : Unit) (step : Int) : Except (Option (Int × Int)) Unit :=
 if Zn (YT q t l vs step) (zb t) 0 < 0 then .ok () else .error (some (step, Zn (YT q t l vs step) (zb t) 0))
def y0Q (t : List y8) (l : List yd) (vs : List yl) : Int × Int :=
 if Zn (yjh (zb t) l vs) l 0 < 0 then (0, 0) else (4, Zn (yjh (zb t) l vs) l 0)
def y8u (q : List Int) (t : List y8) (l : List yd) (cs : List yb) (vs : List yl) (z : Int) : Option (Int × Int) :=
 if zk q t l cs vs z = true then y9l (y52 q t l vs) (fun _ => some (y0Q t l vs)) ([1, 2, 3] : List Int) 0 () else some (0, 0)
theorem ymx (i : Int) (h0 : 0 ≤ i) (h1 : i < 3) : ([1, 2, 3] : List Int).getD i.toNat 0 = i + 1 := by
 have : i = 0 ∨ i = 1 ∨ i = 2 := by omega
 rcases this with rfl | rfl | rfl <;> rfl
theorem y0z (ht : TOk t) (hq : q.length ≤ 1048576) (hl : l.length ≤ 1048576) (hc : cs.length ≤ 1048576) (hv : vs.length ≤ 1048576) (hvn : ∀ v ∈ vs, ByteArray.size v.1 ≤ maxLen) : YK (q, t, l, cs, vs, z) = y8u q t l cs vs z := by
 unfold YK y8u
 have hk := ht.keys
 have e : yu (q, t) = some (zb t) := zz q t (by have := ht.len; omega) ht.nodes ht.sum
 simp only [VT q t l cs vs z ht hl hc hv hvn, e, Option.bind_some]
 cases hp : zk q t l cs vs z
 ·rfl
 have hpos : ∀ a ∈ l, 1 ≤ a.1 := by
  refine yhv ?_
  unfold zk at hp
  simp only [Bool.and_eq_true] at hp
  exact hp.2.1
 simp only [Bool.not_true, cond_false, if_true]
 unfold qs
 refine y4J (step := ZQ _ _) (fun i (_ : Unit) => (i + 1, q, t, l, cs, vs, z, zb t)) (y52 q t l vs) (fun _ => some (y0Q t l vs)) 0 ([1, 2, 3] : List Int) (by decide) (fun _ _ => True) (fun again i s h0 h1 _ => ⟨?_, fun _ _ => trivial⟩) ?_ () trivial
 ·have h1' : i < 3 := h1
  rw [ymx i h0 h1']
  have hw : Go.IntKind.wrap .i64 (i + 1 + 1) = i + 1 + 1 := w64 (by omega) (by omega)
  unfold ZQ y52
  have hle : i + 1 ≤ 3 := by omega
  simp only [Bool.cond_eq_ite, decide_eq_true_eq, hle, if_true]
  unfold qr
  refine (YQ (step := ZP _ _) (fun j => (i + 1, j, q, t, l, cs, vs, z, zb t)) (YT q t l vs (i + 1)) (fun j => some (i + 1, j)) (again (i + 1 + 1, q, t, l, cs, vs, z, zb t)) z6 (zb t) (by omega) ?_ ?_).trans ?_
  ·intro again' j j0 j1
   have hwj : Go.IntKind.wrap .i64 (j + 1) = j + 1 := w64 (by omega) (by omega)
   unfold ZP
   obtain ⟨⟨x1, x2, x3, x4, x5⟩, hx⟩ : ∃ x, y0 (zb t) j = x := ⟨_, rfl⟩
   have hx' : (zb t).getD j.toNat z6 = (x1, x2, x3, x4, x5) := hx
   rw [hx']
   simp only [Bool.cond_eq_ite, decide_eq_true_eq, j0, j1, if_true, hwj, hx, y4Z q t l cs vs z ht hq hl hv hpos (i + 1) x1 x2 x3 x4 x5, Option.bind_some]
  ·intro again' j hj
   unfold ZP
   simp only [Bool.cond_eq_ite, decide_eq_true_eq, if_neg hj, hw]
  ·split <;> rfl
 ·intro again i s hi
  have hi' : ¬ i < 3 := hi
  have hle : ¬ i + 1 ≤ 3 := by omega
  unfold ZQ
  simp only [Bool.cond_eq_ite, decide_eq_true_eq, if_neg hle]
  unfold Vu y0Q
  refine (YQ (step := Zb _ _) (fun j => (j, q, t, l, cs, vs, z)) (yjh (zb t) l vs) (fun j => some (4, j)) (some (0, 0)) Y0 l (by omega) ?_ ?_).trans ?_
  ·intro again' j j0 j1
   have hwj : Go.IntKind.wrap .i64 (j + 1) = j + 1 := w64 (by omega) (by omega)
   unfold Zb
   have hx : l.getD j.toNat Y0 = yC l j := rfl
   rw [hx]
   simp only [Bool.cond_eq_ite, decide_eq_true_eq, j0, j1, if_true, hwj, ybu q t l cs vs z ht hl hv (yC l j), Option.bind_some]
  ·intro again' j hj
   unfold Zb
   simp only [Bool.cond_eq_ite, decide_eq_true_eq, if_neg hj]
  ·split <;> rfl
theorem y0A (ht : TOk t) (hq : q.length ≤ 1048576) (hl : l.length ≤ 1048576) (hc : cs.length ≤ 1048576) (hv : vs.length ≤ 1048576) (hvn : ∀ v ∈ vs, ByteArray.size v.1 ≤ maxLen) : YN (q, t, l, cs, vs, z) = y8u q t l cs vs z := by
 unfold YN y8u
 have hk := ht.keys
 have e : yS (q, t) = some (zb t) := Z1 q t (by have := ht.len; omega) ht.nodes ht.sum
 simp only [VU q t l cs vs z ht hl hc hv hvn, e, Option.bind_some]
 cases hp : zk q t l cs vs z
 ·rfl
 simp only [Bool.not_true, cond_false, if_true]
 unfold qx
 refine y4J (step := ZX _ _) (fun i (_ : Unit) => (3, i, q, t, l, cs, vs, z, zb t, [1, 2, 3])) (y52 q t l vs) (fun _ => some (y0Q t l vs)) 0 ([1, 2, 3] : List Int) (by decide) (fun _ _ => True) (fun again i s h0 h1 _ => ⟨?_, fun _ _ => trivial⟩) ?_ () trivial
 ·have h1' : i < 3 := h1
  have hx : zl ([1, 2, 3] : List Int) i = i + 1 := ymx i h0 h1'
  have h1'' : i < ((([1, 2, 3] : List Int).length : Nat) : Int) := h1
  rw [ymx i h0 h1']
  have hw : Go.IntKind.wrap .i64 (i + 1) = i + 1 := w64 (by omega) (by omega)
  unfold ZX y52
  simp only [Bool.cond_eq_ite, decide_eq_true_eq, h0, h1', h1'', hx, if_true]
  unfold qw
  refine (YQ (step := ZW _ _) (fun j => (i + 1, 3, i, ((zb t).length : Int), j, q, t, l, cs, vs, z, zb t, [1, 2, 3])) (YT q t l vs (i + 1)) (fun j => some (i + 1, j)) (again (3, i + 1, q, t, l, cs, vs, z, zb t, [1, 2, 3])) z6 (zb t) (by omega) ?_ ?_).trans ?_
  ·intro again' j j0 j1
   have hwj : Go.IntKind.wrap .i64 (j + 1) = j + 1 := w64 (by omega) (by omega)
   unfold ZW
   obtain ⟨⟨x1, x2, x3, x4, x5⟩, hx⟩ : ∃ x, y0 (zb t) j = x := ⟨_, rfl⟩
   have hx' : (zb t).getD j.toNat z6 = (x1, x2, x3, x4, x5) := hx
   rw [hx']
   simp only [Bool.cond_eq_ite, decide_eq_true_eq, j0, j1, if_true, hwj, hx, y50 q t l cs vs z ht hq hl hv (i + 1) x1 x2 x3 x4 x5, Option.bind_some]
  ·intro again' j hj
   unfold ZW
   simp only [Bool.cond_eq_ite, decide_eq_true_eq, if_neg hj, hw]
  ·split <;> rfl
 ·intro again i s hi
  have hi' : ¬ i < 3 := hi
  unfold ZX
  simp only [Bool.cond_eq_ite, decide_eq_true_eq, if_neg hi']
  unfold Vy y0Q
  refine (YQ (step := Zj _ _) (fun j => (l, (l.length : Int), j, q, t, l, cs, vs, z, zb t)) (yjh (zb t) l vs) (fun j => some (4, j)) (some (0, 0)) Y0 l (by omega) ?_ ?_).trans ?_
  ·intro again' j j0 j1
   have hwj : Go.IntKind.wrap .i64 (j + 1) = j + 1 := w64 (by omega) (by omega)
   unfold Zj yjh
   have hx : l.getD j.toNat Y0 = yC l j := rfl
   rw [hx]
   simp only [Bool.cond_eq_ite, decide_eq_true_eq, j0, j1, if_true, hwj, y33 q t l cs vs z _ hv, Kp l _ hl, y51 (zb t) _ hk, Option.bind_some]
   cases y2D vs (yC l j).1 <;> cases Yl (y8t (yC l j).1) (zb t) 0 <;> by_cases hkk : ((zE l (yC l j).1).length : Int) ≤ 1 <;> simp [hkk]
  ·intro again' j hj
   unfold Zj
   simp only [Bool.cond_eq_ite, decide_eq_true_eq, if_neg hj]
  ·split <;> rfl
theorem y9O {S A R : Type} (g : Int → S → A → Except (Option R) S) (k : S → Option R) (hg : ∀ i s a r, g i s a = .error r → ∃ x, r = some x) (hk : ∀ s, ∃ x, k s = some x) : ∀ (l : List A) (i : Int) (s : S), ∃ x, y9l g k l i s = some x
 | [], i, s => hk s
 | a :: l, i, s => by
  rw [y9l]
  cases h : g i s a with
  | error r => exact hg i s a r h
  | ok s' => exact y9O g k hg hk l (i + 1) s'
theorem y0R : ∃ r, y8u q t l cs vs z = some r := by
 unfold y8u
 split
 ·refine y9O _ _ (fun i s a r h => ?_) (fun s => ⟨_, rfl⟩) _ _ _
  unfold y52 at h
  split at h
  ·cases h
  ·injection h with h
   exact ⟨_, h.symm⟩
 ·exact ⟨_, rfl⟩
theorem ymy (ht : TOk t) (hq : q.length ≤ 1048576) (hl : l.length ≤ 1048576) (hc : cs.length ≤ 1048576) (hv : vs.length ≤ 1048576) (hvn : ∀ v ∈ vs, ByteArray.size v.1 ≤ maxLen) : ∃ b, km (q, t, l, cs, vs, z) = some b ∧ kl (q, t, l, cs, vs, z) = some b := by
 obtain ⟨⟨r1, r2⟩, hr⟩ := y0R q t l cs vs z
 unfold km kl
 simp only [y0z q t l cs vs z ht hq hl hc hv hvn, y0A q t l cs vs z ht hq hl hc hv hvn, hr, VT q t l cs vs z ht hl hc hv hvn, VU q t l cs vs z ht hl hc hv hvn, y31 cs hc, y32 cs hc, Ql q t l cs vs z ht hl hv, Qm q t l cs vs z ht hl hv, Option.bind_some]
 cases zk q t l cs vs z
 ·exact ⟨_, rfl, rfl⟩
 ·simp only [cond_true, Option.bind_some]
  cases (r1 == 0)
  ·exact ⟨_, rfl, rfl⟩
  ·exact ⟨_, rfl, rfl⟩
end
end Go.Proofs.YthgdjjdigalckaaGreat.Pl
namespace Go.Proofs.YthgdjjdigalckaaGreat.Pl
open Go.Proofs.YthgdjjdigalckaaGreat.R Go.Proofs.YthgdjjdigalckaaGreat.XC
structure SP (q : List ye) (t : List y8) (l : List yd) (cs : List yb) (vs : List yl) : Prop where
 S : small q t l cs vs
 N : ∀ v ∈ vs, ByteArray.size v.1 ≤ maxLen
structure TQ (q : List ye) (t : List y8) : Prop where
 T : TOk t
 Q : ∀ n ∈ t, y3o n
 q : q.length ≤ 1048576
theorem SP.tq {q : List ye} {t : List y8} {l : List yd} {cs : List yb} {vs : List yl} (h : SP q t l cs vs) : TQ q t :=
 ⟨⟨h.S.2.1, fun n hn => by have := (W6 h.S.2.2.1 hn).1; omega, h.S.2.2.1⟩, fun n hn => W6 h.S.2.2.1 hn, h.S.1⟩
theorem TQ.sp {q q' : List ye} {t t' : List y8} {l l' : List yd} {cs cs' : List yb} {vs : List yl} (h : TQ q' t') (h2 : SP q t l cs vs) (hl : l'.length ≤ 1048576) (hc : cs'.length ≤ 1048576) : SP q' t' l' cs' vs :=
 ⟨⟨h.q, h.T.len, h.T.sum, hl, hc, h2.S.2.2.2.2.2⟩, h2.N⟩
theorem TS.tq {q : List ye} {t : List y8} (h : TS t) (hq : q.length ≤ 1048576) : TQ q t := ⟨h.ok, fun n hn => (h.node n hn).q, hq⟩
theorem Kc {q : List ye} {t : List y8} (k : y9) (h : TQ q t) : TQ (yw q t k).1 (yw q t k).2.1 := by
 unfold yw
 split
 ·rename_i hh
  rw [Bool.and_eq_true] at hh
  split
  ·rename_i hj
   have hT := y2f hj
   have := (wz hj)
   exact hT.tq (by simp only; omega)
  ·exact h
 ·exact h
def Q0 (k : y9) : y9 := (k.1, k.2.1, 0, 0, 0)
def y0B (q : List ye) (t : List y8) (cs : List yb) (k : y9) : List yb := if (JE q t k.1 k.2.1).2.2.2.2.2 = true ∧ (JE q t k.1 k.2.1).2.2.1 = 1 then y5w cs (JE q t k.1 k.2.1).2.2.2.1 else cs
theorem ybv (q : List ye) (t : List y8) (cs : List yb) (k : y9) : (y0B q t cs k).length = cs.length := by
 unfold y0B
 split
 ·exact y2g _ _
 ·rfl
abbrev PO : Type := List ye × List y8 × List yd × List yb × List yl × Int
section
variable (q : List ye) (t : List y8) (l : List yd) (cs : List yb) (vs : List yl) (z : Int)
def Yt (t : List y8) (i : Int) : y9 := (zb t).getD i.toNat z6
def Zp (step i : Int) : PO × Bool :=
 if step = 1 ∨ step = 2 then (((yw q t (Q0 (Yt t i))).1, (yw q t (Q0 (Yt t i))).2.1, l, y0B q t cs (Yt t i), vs, z), (yw q t (Q0 (Yt t i))).2.2)
 else if step = 3 then
  (((yw (yw q t (Q0 (Yt t i))).1 (yw q t (Q0 (Yt t i))).2.1 ((Yt t i).1, (zE l (Yt t i).2.1).getD 0 0, (Yt t i).2.2)).1,
   (yw (yw q t (Q0 (Yt t i))).1 (yw q t (Q0 (Yt t i))).2.1 ((Yt t i).1, (zE l (Yt t i).2.1).getD 0 0, (Yt t i).2.2)).2.1, l, cs, vs, z),
   (yw q t (Q0 (Yt t i))).2.2 && (yw (yw q t (Q0 (Yt t i))).1 (yw q t (Q0 (Yt t i))).2.1 ((Yt t i).1, (zE l (Yt t i).2.1).getD 0 0, (Yt t i).2.2)).2.2)
 else ((q, t, (y1y l (l.getD i.toNat Y0).1).1, cs, vs, z), (y1y l (l.getD i.toNat Y0).1).2)
noncomputable def yhw (p : PO) : Bool := zk p.1 p.2.1 p.2.2.1 p.2.2.2.1 p.2.2.2.2.1 p.2.2.2.2.2
noncomputable def yfj (p : PO) (r : PO × Bool) : PO × Bool := if (r.2 && yhw r.1) = true then (r.1, true) else (p, false)
noncomputable def KY : PO × Bool := match y8u q t l cs vs z with
 | some (step, i) => if step = 0 then ((q, t, l, cs, vs, z), false) else yfj (q, t, l, cs, vs, z) (Zp q t l cs vs z step i)
 | none => ((q, t, l, cs, vs, z), false)
def y0Y (r : PO × Bool) : List ye × List y8 × List yd × List yb × List yl × Int × Bool := (r.1.1, r.1.2.1, r.1.2.2.1, r.1.2.2.2.1, r.1.2.2.2.2.1, r.1.2.2.2.2.2, r.2)
theorem y6l {step i : Int} (h : y8u q t l cs vs z = some (step, i)) : step = 0 ∨ ((step = 1 ∨ step = 2 ∨ step = 3) ∧ 0 ≤ i ∧ i < ((zb t).length : Int) ∧ YT q t l vs step (Yt t i) = true) ∨ (step = 4 ∧ 0 ≤ i ∧ i < (l.length : Int)) := by
 have hfind : ∀ s, (s = 1 ∨ s = 2 ∨ s = 3) → ¬ Zn (YT q t l vs s) (zb t) 0 < 0 → (step, i) = (s, Zn (YT q t l vs s) (zb t) 0) → step = 0 ∨ ((step = 1 ∨ step = 2 ∨ step = 3) ∧ 0 ≤ i ∧ i < ((zb t).length : Int) ∧ YT q t l vs step (Yt t i) = true) ∨ (step = 4 ∧ 0 ≤ i ∧ i < (l.length : Int)) := by
  intro s hs h0 he
  injection he with h1 h2
  subst h1 h2
  rcases K9 (YT q t l vs step) z6 (zb t) 0 (Int.le_refl _) with h | ⟨h1, h2, h3⟩
  ·omega
  ·rw [Int.sub_zero] at h3
   exact .inr (.inl ⟨hs, h1, by omega, h3⟩)
 unfold y8u at h
 split at h
 ·simp only [y9l, y52] at h
  by_cases h1 : Zn (YT q t l vs 1) (zb t) 0 < 0
  ·simp only [if_pos h1] at h
   by_cases h2 : Zn (YT q t l vs 2) (zb t) 0 < 0
   ·simp only [if_pos h2] at h
    by_cases h3 : Zn (YT q t l vs 3) (zb t) 0 < 0
    ·simp only [if_pos h3] at h
     injection h with h
     unfold y0Q at h
     split at h
     ·injection h with h4 h5
      exact .inl h4.symm
     ·rename_i h4
      injection h with h5 h6
      rcases y48 (yjh (zb t) l vs) l 0 with h | ⟨h7, h8⟩
      ·omega
      ·exact .inr (.inr ⟨h5.symm, by omega, by omega⟩)
    ·simp only [if_neg h3] at h
     injection h with h
     exact hfind 3 (by simp) h3 h.symm
   ·simp only [if_neg h2] at h
    injection h with h
    exact hfind 2 (by simp) h2 h.symm
  ·simp only [if_neg h1] at h
   injection h with h
   exact hfind 1 (by simp) h1 h.symm
 ·injection h with h
  injection h with h1 h2
  exact .inl h1.symm
variable {q t l cs vs} (h : SP q t l cs vs)
include h
theorem y53 (step i : Int) : SP (Zp q t l cs vs z step i).1.1 (Zp q t l cs vs z step i).1.2.1 (Zp q t l cs vs z step i).1.2.2.1 (Zp q t l cs vs z step i).1.2.2.2.1 (Zp q t l cs vs z step i).1.2.2.2.2.1 := by
 have hl := h.S.2.2.2.1
 have hc := h.S.2.2.2.2.1
 unfold Zp
 split
 ·exact (Kc _ h.tq).sp h hl (by rw [ybv]; exact hc)
 ·split
  ·exact (Kc _ (Kc _ h.tq)).sp h hl hc
  ·refine h.tq.sp h ?_ hc
   unfold y1y
   split
   ·exact hl
   ·split
    ·unfold yCH
     exact Nat.le_trans (List.length_eraseIdx_le _ _) (by simpa using hl)
    ·exact hl
theorem yhx : SP (KY q t l cs vs z).1.1 (KY q t l cs vs z).1.2.1 (KY q t l cs vs z).1.2.2.1 (KY q t l cs vs z).1.2.2.2.1 (KY q t l cs vs z).1.2.2.2.2.1 := by
 unfold KY
 split
 ·split
  ·exact h
  ·unfold yfj
   split
   ·exact y53 z h _ _
   ·exact h
 ·exact h
theorem y9P (a b c d e : Int) : Zw (q, t, l, cs, vs, z, a, b, c, d, e) = some (if (yw q t (a, b, 0, 0, 0)).2.2 = true then (true, (yw q t (a, b, 0, 0, 0)).1, (yw q t (a, b, 0, 0, 0)).2.1, l, y0B q t cs (a, b, c, d, e), vs, z) else (false, q, t, l, cs, vs, z)) := by
 have hq := h.tq
 unfold Zw zA
 simp only [Kq q t a b hq.T hq.q, jc q t a b 0 0 0 hq.T hq.Q hq.q, Option.bind_some]
 cases hr : (yw q t (a, b, 0, 0, 0)).2.2 with
 | false => rfl
 | true =>
  unfold wk y0B
  simp only [Bool.not_true, cond_false, if_true, wK cs _ h.S.2.2.2.2.1, Option.bind_some]
  cases (JE q t a b).2.2.2.2.2 with
  | false => rfl
  | true =>
   by_cases h1 : (JE q t a b).2.2.1 = 1
   ·rw [if_pos ⟨rfl, h1⟩]
    simp only [h1, cond_true, Option.bind_some, beq_self_eq_true]
   ·rw [if_neg fun hh => h1 hh.2]
    simp only [cond_true, Option.bind_some, beq_eq_false_iff_ne.2 h1, cond_false]
theorem y5x (a b c d e : Int) : zX (q, t, l, cs, vs, z, a, b, 0, 0, 0) = some ((yw q t (a, b, 0, 0, 0)).2.2, (yw q t (a, b, 0, 0, 0)).1, (yw q t (a, b, 0, 0, 0)).2.1, l, if (yw q t (a, b, 0, 0, 0)).2.2 = true then y0B q t cs (a, b, c, d, e) else cs, vs, z) := by
 have hq := h.tq
 unfold zX
 simp only [y1j q t a b hq.T hq.q, Vd q t a b 0 0 0 hq.T hq.Q hq.q, Option.bind_some]
 cases hr : (yw q t (a, b, 0, 0, 0)).2.2 with
 | false => rfl
 | true =>
  unfold y0B
  simp only [cond_true, if_true, Option.bind_some, y3p cs _ h.S.2.2.2.2.1]
  cases (JE q t a b).2.2.2.2.2 with
  | false => rfl
  | true =>
   by_cases h1 : (JE q t a b).2.2.1 = 1
   ·rw [if_pos ⟨rfl, h1⟩]
    simp only [h1, cond_true, Option.bind_some, beq_self_eq_true]
   ·rw [if_neg fun hh => h1 hh.2]
    simp only [cond_true, Option.bind_some, beq_eq_false_iff_ne.2 h1, cond_false]
theorem Zz : yH (q, t, l, cs, vs, z) = some (zk q t l cs vs z) := VT q t l cs vs z h.tq.T h.S.2.2.2.1 h.S.2.2.2.2.1 h.S.2.2.2.2.2 h.N
theorem y5y : Yc (q, t, l, cs, vs, z) = some (zk q t l cs vs z) := VU q t l cs vs z h.tq.T h.S.2.2.2.1 h.S.2.2.2.2.1 h.S.2.2.2.2.2 h.N
end
end Go.Proofs.YthgdjjdigalckaaGreat.Pl
namespace Go.Proofs.YthgdjjdigalckaaGreat.Pl
open Go.Proofs.YthgdjjdigalckaaGreat.R Go.Proofs.YthgdjjdigalckaaGreat.XC
theorem y9Q : (((0 : Int)) == 0) = true := rfl
theorem y9R : (((0 : Int)) == 1) = false := rfl
theorem y9S : (((0 : Int)) == 2) = false := rfl
theorem y9T : (((0 : Int)) == 3) = false := rfl
theorem y9U : (((0 : Int)) == 4) = false := rfl
theorem y9V : (((1 : Int)) == 0) = false := rfl
theorem y9W : (((1 : Int)) == 1) = true := rfl
theorem y9X : (((1 : Int)) == 2) = false := rfl
theorem y9Y : (((1 : Int)) == 3) = false := rfl
theorem y9Z : (((1 : Int)) == 4) = false := rfl
theorem ya0 : (((2 : Int)) == 0) = false := rfl
theorem ya1 : (((2 : Int)) == 1) = false := rfl
theorem ya2 : (((2 : Int)) == 2) = true := rfl
theorem ya3 : (((2 : Int)) == 3) = false := rfl
theorem ya4 : (((2 : Int)) == 4) = false := rfl
theorem ya5 : (((3 : Int)) == 0) = false := rfl
theorem ya6 : (((3 : Int)) == 1) = false := rfl
theorem ya7 : (((3 : Int)) == 2) = false := rfl
theorem ya8 : (((3 : Int)) == 3) = true := rfl
theorem ya9 : (((3 : Int)) == 4) = false := rfl
theorem yaa : (((4 : Int)) == 0) = false := rfl
theorem yab : (((4 : Int)) == 1) = false := rfl
theorem yac : (((4 : Int)) == 2) = false := rfl
theorem yad : (((4 : Int)) == 3) = false := rfl
theorem yae : (((4 : Int)) == 4) = true := rfl
theorem yji : (((0 : Int)) != 0) = false := rfl
theorem y36 : (((0 : Int)) != 3) = true := rfl
theorem yjj : (((1 : Int)) != 0) = true := rfl
theorem y37 : (((1 : Int)) != 3) = true := rfl
theorem yjk : (((2 : Int)) != 0) = true := rfl
theorem y38 : (((2 : Int)) != 3) = true := rfl
theorem yjl : (((3 : Int)) != 0) = true := rfl
theorem y39 : (((3 : Int)) != 3) = false := rfl
theorem yjm : (((4 : Int)) != 0) = true := rfl
theorem y3a : (((4 : Int)) != 3) = true := rfl
section
variable {q : List ye} {t : List y8} {l : List yd} {cs : List yb} {vs : List yl} (z : Int) (h : SP q t l cs vs)
theorem y8v {q' : List ye} {t' : List y8} {l' : List yd} {cs' : List yb} (ok : Bool) (h' : SP q' t' l' cs' vs) : (Option.bind (bif (!ok) then some true else Option.bind (yH (q', t', l', cs', vs, z)) fun r6 => some (!r6)) fun u5 => bif u5 then some (q, t, l, cs, vs, z, false) else some (q', t', l', cs', vs, z, true)) = some (y0Y (yfj (q, t, l, cs, vs, z) ((q', t', l', cs', vs, z), ok))) := by
 rw [Zz z h']
 unfold yfj yhw y0Y
 cases ok with
 | false => rfl
 | true =>
  simp only [Option.bind_some, Bool.not_true, cond_false, Bool.true_and]
  cases zk q' t' l' cs' vs z <;> rfl
theorem y8w {q' : List ye} {t' : List y8} {l' : List yd} {cs' : List yb} (ok : Bool) (h' : SP q' t' l' cs' vs) : (Option.bind (bif (!ok) then some true else Option.bind (Yc (q', t', l', cs', vs, z)) fun r6 => some (!r6)) fun u5 => bif u5 then some (q, t, l, cs, vs, z, false) else some (q', t', l', cs', vs, z, true)) = some (y0Y (yfj (q, t, l, cs, vs, z) ((q', t', l', cs', vs, z), ok))) := by
 rw [y5y z h']
 unfold yfj yhw y0Y
 cases ok with
 | false => rfl
 | true =>
  simp only [Option.bind_some, Bool.not_true, cond_false, Bool.true_and]
  cases zk q' t' l' cs' vs z <;> rfl
include h
theorem qF : yI (q, t, l, cs, vs, z) = some (y0Y (KY q t l cs vs z)) := by
 have hq := h.tq
 have hl := h.S.2.2.2.1
 have hc := h.S.2.2.2.2.1
 have hv := h.S.2.2.2.2.2
 obtain ⟨⟨step, i⟩, hn⟩ := y0R q t l cs vs z
 have eK : yu (q, t) = some (zb t) := zz q t (by have := hq.T.len; omega) hq.T.nodes hq.T.sum
 unfold yI
 simp only [kr q t l cs vs z h.S, y0z q t l cs vs z hq.T hq.q hl hc hv h.N, hn, eK, Option.bind_some]
 have hp : KY q t l cs vs z = if step = 0 then ((q, t, l, cs, vs, z), false) else yfj (q, t, l, cs, vs, z) (Zp q t l cs vs z step i) := by
  unfold KY
  rw [hn]
 have erd : y0 (zb t) i = Yt t i := rfl
 have h12 : ∀ s : Int, s = 1 ∨ s = 2 → (Option.bind (Zw (q, t, l, cs, vs, z, (Yt t i).1, (Yt t i).2.1, (Yt t i).2.2.1, (Yt t i).2.2.2.1, (Yt t i).2.2.2.2)) fun r4 => Option.bind (bif (!r4.1) then some true else Option.bind (yH (r4.2.1, r4.2.2.1, r4.2.2.2.1, r4.2.2.2.2.1, r4.2.2.2.2.2.1, r4.2.2.2.2.2.2)) fun r6 => some (!r6)) fun u5 => bif u5 then some (q, t, l, cs, vs, z, false) else some (r4.2.1, r4.2.2.1, r4.2.2.2.1, r4.2.2.2.2.1, r4.2.2.2.2.2.1, r4.2.2.2.2.2.2, true)) = some (y0Y (yfj (q, t, l, cs, vs, z) (Zp q t l cs vs z s i))) := by
  intro s hs
  have hT := y53 z h s i
  unfold Zp at hT ⊢
  rw [if_pos hs] at hT ⊢
  rw [y9P z h]
  change Option.bind (some (if (yw q t (Q0 (Yt t i))).2.2 = true then _ else _)) _ = _
  cases hr : (yw q t (Q0 (Yt t i))).2.2 with
  | false => rfl
  | true => exact y8v z true hT
 rcases y6l q t l cs vs z hn with rfl | ⟨hs, i0, i1, hk⟩ | ⟨rfl, i0, i1⟩
 ·rw [hp, if_pos rfl]
  rfl
 ·rcases hs with rfl | rfl | rfl
  ·rw [hp, if_neg (show ¬ ((1 : Int) = 0) by decide)]
   simp only [y9Q, y9R, y9S, y9T, y9U, y9V, y9W, y9X, y9Y, y9Z, ya0, ya1, ya2, ya3, ya4, ya5, ya6, ya7, ya8, ya9, yaa, yab, yac, yad, yae, yji, y36, yjj, y37, yjk, y38, yjl, y39, yjm, y3a, cond_true, cond_false, erd]
   rw [if_pos i0, if_pos i1]
   exact h12 1 (.inl rfl)
  ·rw [hp, if_neg (show ¬ ((2 : Int) = 0) by decide)]
   simp only [y9Q, y9R, y9S, y9T, y9U, y9V, y9W, y9X, y9Y, y9Z, ya0, ya1, ya2, ya3, ya4, ya5, ya6, ya7, ya8, ya9, yaa, yab, yac, yad, yae, yji, y36, yjj, y37, yjk, y38, yjl, y39, yjm, y3a, cond_true, cond_false, erd]
   rw [if_pos i0, if_pos i1]
   exact h12 2 (.inr rfl)
  ·rw [hp, if_neg (show ¬ ((3 : Int) = 0) by decide)]
   have hT := y53 z h 3 i
   unfold Zp at hT ⊢
   rw [if_neg (show ¬ ((3 : Int) = 1 ∨ (3 : Int) = 2) by decide), if_pos (show (3 : Int) = 3 from rfl)] at hT ⊢
   simp only [y9Q, y9R, y9S, y9T, y9U, y9V, y9W, y9X, y9Y, y9Z, ya0, ya1, ya2, ya3, ya4, ya5, ya6, ya7, ya8, ya9, yaa, yab, yac, yad, yae, yji, y36, yjj, y37, yjk, y38, yjl, y39, yjm, y3a, cond_true, cond_false, erd]
   rw [if_pos i0, if_pos i1]
   obtain ⟨⟨a, b, c, d, e⟩, hx⟩ : ∃ x, Yt t i = x := ⟨_, rfl⟩
   rw [hx] at hk hT ⊢
   have h1 := Kc (a, b, 0, 0, 0) hq
   have hone : y2D vs b = true ∧ ((zE l b).length : Int) = 1 := by
    unfold YT y9N at hk
    rw [if_neg (show ¬ (3 : Int) = 1 by decide), if_neg (show ¬ (3 : Int) = 2 by decide)] at hk
    simp only [Bool.and_eq_true, beq_iff_eq] at hk
    exact hk.1
   have eKid : Za (q, t, l, cs, vs, z, b) = some ((zE l b).getD 0 0) := by
    unfold Za
    simp only [Ko l b hl, y0u q t l cs vs z b hv, hone.1, Bool.not_true, cond_false, Option.bind_some]
    rw [show (((List.length (zE l b) : Nat) : Int) != 1) = false by rw [hone.2]; rfl, cond_false, if_pos (by omega), if_pos (by omega)]
    rfl
   simp only [Q0] at hT ⊢
   simp only [jc q t a b 0 0 0 hq.T hq.Q hq.q, eKid, Option.bind_some]
   rw [jc _ _ a ((zE l b).getD 0 0) c d e h1.T h1.Q h1.q]
   simp only [Option.bind_some]
   cases (yw q t (a, b, 0, 0, 0)).2.2 with
   | false => rfl
   | true =>
    simp only [cond_true, Option.bind_some, Bool.true_and]
    exact y8v z _ hT
 ·rw [hp, if_neg (show ¬ ((4 : Int) = 0) by decide)]
  have hT := y53 z h 4 i
  unfold Zp at hT ⊢
  rw [if_neg (show ¬ ((4 : Int) = 1 ∨ (4 : Int) = 2) by decide), if_neg (show ¬ (4 : Int) = 3 by decide)] at hT ⊢
  simp only [y9Q, y9R, y9S, y9T, y9U, y9V, y9W, y9X, y9Y, y9Z, ya0, ya1, ya2, ya3, ya4, ya5, ya6, ya7, ya8, ya9, yaa, yab, yac, yad, yae, yji, y36, yjj, y37, yjk, y38, yjl, y39, yjm, y3a, cond_true, cond_false]
  rw [if_pos i0, if_pos i1, y5u l _ hl]
  simp only [Option.bind_some]
  exact y8v z _ hT
theorem y2H : zy (q, t, l, cs, vs, z) = some (y0Y (KY q t l cs vs z)) := by
 have hq := h.tq
 have hl := h.S.2.2.2.1
 have hc := h.S.2.2.2.2.1
 have hv := h.S.2.2.2.2.2
 obtain ⟨⟨step, i⟩, hn⟩ := y0R q t l cs vs z
 have eK : yS (q, t) = some (zb t) := Z1 q t (by have := hq.T.len; omega) hq.T.nodes hq.T.sum
 unfold zy
 simp only [Qq q t l cs vs z h.S, y0A q t l cs vs z hq.T hq.q hl hc hv h.N, hn, Option.bind_some]
 have hp : KY q t l cs vs z = if step = 0 then ((q, t, l, cs, vs, z), false) else yfj (q, t, l, cs, vs, z) (Zp q t l cs vs z step i) := by
  unfold KY
  rw [hn]
 have erd : y0 (zb t) i = Yt t i := rfl
 have h12 : ∀ s : Int, s = 1 ∨ s = 2 → (Option.bind (Option.bind (zX (q, t, l, cs, vs, z, (Yt t i).1, (Yt t i).2.1, (0 : Int), (0 : Int), (0 : Int))) fun r3 => some (r3.1, r3.2.1, r3.2.2.1, r3.2.2.2.1, r3.2.2.2.2.1, r3.2.2.2.2.2.1, r3.2.2.2.2.2.2)) fun r3 => Option.bind (bif (!r3.1) then some true else Option.bind (Yc (r3.2.1, r3.2.2.1, r3.2.2.2.1, r3.2.2.2.2.1, r3.2.2.2.2.2.1, r3.2.2.2.2.2.2)) fun r5 => some (!r5)) fun u4 => bif u4 then some (q, t, l, cs, vs, z, false) else some (r3.2.1, r3.2.2.1, r3.2.2.2.1, r3.2.2.2.2.1, r3.2.2.2.2.2.1, r3.2.2.2.2.2.2, true)) = some (y0Y (yfj (q, t, l, cs, vs, z) (Zp q t l cs vs z s i))) := by
  intro s hs
  have hT := y53 z h s i
  unfold Zp at hT ⊢
  rw [if_pos hs] at hT ⊢
  have e : zX (q, t, l, cs, vs, z, (Yt t i).1, (Yt t i).2.1, (0 : Int), (0 : Int), (0 : Int)) = some ((yw q t (Q0 (Yt t i))).2.2, (yw q t (Q0 (Yt t i))).1, (yw q t (Q0 (Yt t i))).2.1, l, if (yw q t (Q0 (Yt t i))).2.2 = true then y0B q t cs (Yt t i) else cs, vs, z) := y5x z h _ _ (Yt t i).2.2.1 (Yt t i).2.2.2.1 (Yt t i).2.2.2.2
  rw [e]
  cases hr : (yw q t (Q0 (Yt t i))).2.2 with
  | false => rfl
  | true => exact y8w z true hT
 rcases y6l q t l cs vs z hn with rfl | ⟨hs, i0, i1, hk⟩ | ⟨rfl, i0, i1⟩
 ·rw [hp, if_pos rfl]
  rfl
 ·unfold Zl
  simp only [eK, Option.bind_some]
  rcases hs with rfl | rfl | rfl
  ·rw [hp, if_neg (show ¬ ((1 : Int) = 0) by decide)]
   simp only [y9Q, y9R, y9S, y9T, y9U, y9V, y9W, y9X, y9Y, y9Z, ya0, ya1, ya2, ya3, ya4, ya5, ya6, ya7, ya8, ya9, yaa, yab, yac, yad, yae, yji, y36, yjj, y37, yjk, y38, yjl, y39, yjm, y3a, cond_true, cond_false, erd]
   rw [if_pos i0, if_pos i1]
   exact h12 1 (.inl rfl)
  ·rw [hp, if_neg (show ¬ ((2 : Int) = 0) by decide)]
   simp only [y9Q, y9R, y9S, y9T, y9U, y9V, y9W, y9X, y9Y, y9Z, ya0, ya1, ya2, ya3, ya4, ya5, ya6, ya7, ya8, ya9, yaa, yab, yac, yad, yae, yji, y36, yjj, y37, yjk, y38, yjl, y39, yjm, y3a, cond_true, cond_false, erd]
   rw [if_pos i0, if_pos i1]
   exact h12 2 (.inr rfl)
  ·rw [hp, if_neg (show ¬ ((3 : Int) = 0) by decide)]
   have hT := y53 z h 3 i
   unfold Zp at hT ⊢
   rw [if_neg (show ¬ ((3 : Int) = 1 ∨ (3 : Int) = 2) by decide), if_pos (show (3 : Int) = 3 from rfl)] at hT ⊢
   simp only [y9Q, y9R, y9S, y9T, y9U, y9V, y9W, y9X, y9Y, y9Z, ya0, ya1, ya2, ya3, ya4, ya5, ya6, ya7, ya8, ya9, yaa, yab, yac, yad, yae, yji, y36, yjj, y37, yjk, y38, yjl, y39, yjm, y3a, cond_true, cond_false, erd]
   rw [if_pos i0, if_pos i1]
   obtain ⟨⟨a, b, c, d, e⟩, hx⟩ : ∃ x, Yt t i = x := ⟨_, rfl⟩
   rw [hx] at hk hT ⊢
   have h1 := Kc (a, b, 0, 0, 0) hq
   have hone : y2D vs b = true ∧ ((zE l b).length : Int) = 1 := by
    unfold YT y9N at hk
    rw [if_neg (show ¬ (3 : Int) = 1 by decide), if_neg (show ¬ (3 : Int) = 2 by decide)] at hk
    simp only [Bool.and_eq_true, beq_iff_eq] at hk
    exact hk.1
   simp only [Q0] at hT ⊢
   simp only [Kp l b hl, Vd q t a b 0 0 0 hq.T hq.Q hq.q, Option.bind_some]
   rw [if_pos (by omega), if_pos (by omega)]
   cases (yw q t (a, b, 0, 0, 0)).2.2 with
   | false => rfl
   | true =>
    simp only [Bool.not_true, cond_false, Bool.true_and]
    rw [Vd _ _ a (zl (zE l b) 0) c d e h1.T h1.Q h1.q]
    simp only [Option.bind_some]
    exact y8w z _ hT
 ·unfold Zl
  rw [hp, if_neg (show ¬ ((4 : Int) = 0) by decide)]
  have hT := y53 z h 4 i
  unfold Zp at hT ⊢
  rw [if_neg (show ¬ ((4 : Int) = 1 ∨ (4 : Int) = 2) by decide), if_neg (show ¬ (4 : Int) = 3 by decide)] at hT ⊢
  simp only [y9Q, y9R, y9S, y9T, y9U, y9V, y9W, y9X, y9Y, y9Z, ya0, ya1, ya2, ya3, ya4, ya5, ya6, ya7, ya8, ya9, yaa, yab, yac, yad, yae, yji, y36, yjj, y37, yjk, y38, yjl, y39, yjm, y3a, cond_true, cond_false]
  rw [if_pos i0, if_pos i1, y5v l _ hl]
  simp only [Option.bind_some]
  exact y8w z _ hT
end
end Go.Proofs.YthgdjjdigalckaaGreat.Pl
namespace Go.Proofs.YthgdjjdigalckaaGreat.Pl
open Go.Proofs.YthgdjjdigalckaaGreat.R Go.Proofs.YthgdjjdigalckaaGreat.XC
noncomputable def prP (p : PO) : PO × Bool := KY p.1 p.2.1 p.2.2.1 p.2.2.2.1 p.2.2.2.2.1 p.2.2.2.2.2
noncomputable def yfE : Nat → Int → PO → Int
 | 0, _, _ => 1000
 | m + 1, i, p => if (prP p).2 = true then yfE m (i + 1) (prP p).1 else i
noncomputable def ydp : Nat → PO → PO
 | 0, p => p
 | m + 1, p => if (prP p).2 = true then ydp m (prP p).1 else p
def SPp (p : PO) : Prop := SP p.1 p.2.1 p.2.2.1 p.2.2.2.1 p.2.2.2.2.1
theorem yfk {p : PO} (h : SPp p) : SPp (prP p).1 := yhx p.2.2.2.2.2 h
theorem ybw : ∀ (m : Nat) (p : PO), SPp p → SPp (ydp m p)
 | 0, p, h => h
 | m + 1, p, h => by
  unfold ydp
  split
  ·exact ybw m _ (yfk h)
  ·exact h
theorem y8x {p : PO} (h : SPp p) : yI p = some (y0Y (prP p)) := qF p.2.2.2.2.2 h
theorem ycB {p : PO} (h : SPp p) : zy p = some (y0Y (prP p)) := y2H p.2.2.2.2.2 h
abbrev S1 : Type := Int × Int × List ye × List y8 × List yd × List yb × List yl
abbrev S4 : Type := Int × List ye × List y8 × List yd × Int × List yb × List yl
def sI : S1 ⊕ S4 → Int
 | .inl x => x.1
 | .inr x => x.1
def sP : S1 ⊕ S4 → PO
 | .inl x => (x.2.2.1, x.2.2.2.1, x.2.2.2.2.1, x.2.2.2.2.2.1, x.2.2.2.2.2.2, x.2.1)
 | .inr x => (x.2.1, x.2.2.1, x.2.2.2.1, x.2.2.2.2.2.1, x.2.2.2.2.2.2, x.2.2.2.2.1)
abbrev S2 : Type := Int × Int × Int × List ye × List y8 × List yd × List yb × List yl
abbrev S3 : Type := Int × Int × List ye × List y8 × List yd × Int × List yb × List yl
def tI : S2 ⊕ (Int × Int × PO) → Int
 | .inl x => x.1
 | .inr x => x.1
def tP : S2 ⊕ (Int × Int × PO) → PO
 | .inl x => (x.2.2.2.1, x.2.2.2.2.1, x.2.2.2.2.2.1, x.2.2.2.2.2.2.1, x.2.2.2.2.2.2.2, x.2.2.1)
 | .inr x => x.2.2
def uI : S2 ⊕ S3 → Int
 | .inl x => x.1
 | .inr x => x.1
def uP : S2 ⊕ S3 → PO
 | .inl x => (x.2.2.2.1, x.2.2.2.2.1, x.2.2.2.2.2.1, x.2.2.2.2.2.2.1, x.2.2.2.2.2.2.2, x.2.2.1)
 | .inr x => (x.2.2.1, x.2.2.2.1, x.2.2.2.2.1, x.2.2.2.2.2.2.1, x.2.2.2.2.2.2.2, x.2.2.2.2.2.1)
theorem y1z {R : Type} {F : PO → Option (List ye × List y8 × List yd × List yb × List yl × Int × Bool)} (hF : ∀ {p}, SPp p → F p = some (y0Y (prP p))) (a b : Int → PO → Option R) (i : Int) (p : PO) (again : Int → PO → Option R) (i0 : 0 ≤ i) (i1 : i ≤ 1000) (hp : SPp p)
  (G : Nat → Int → PO → Option R) (hG0 : ∀ i p, G 0 i p = b i p) (hG1 : ∀ m i p, G (m + 1) i p = if (prP p).2 = true then G m (i + 1) (prP p).1 else a i p)
  (ha : ∀ p', SPp p' → i < 1000 → again (i + 1) p' = G (1000 - (i + 1).toNat) (i + 1) p') :
  (bif (decide (i < (1000 : Int))) then Option.bind (F p) fun r2 => bif (!r2.2.2.2.2.2.2) then a i p else again (Go.IntKind.wrap .i64 (i + (1 : Int))) (r2.1, r2.2.1, r2.2.2.1, r2.2.2.2.1, r2.2.2.2.2.1, r2.2.2.2.2.2.1) else b i p) = G (1000 - i.toNat) i p := by
 by_cases hi : i < 1000
 ·have hw : Go.IntKind.wrap .i64 (i + 1) = i + 1 := w64 (by omega) (by omega)
  rw [decide_eq_true hi, cond_true, hF hp, show 1000 - i.toNat = (1000 - (i + 1).toNat) + 1 by omega, hG1]
  simp only [Option.bind_some, y0Y, hw]
  cases hb : (prP p).2 with
  | false => rfl
  | true => exact ha _ (yfk hp) hi
 ·rw [decide_eq_false hi, show 1000 - i.toNat = 0 by omega, hG0]
  rfl
theorem y2I (p : PO) (h : SPp p) : jG p = some (yfE 1000 0 p) := by
 obtain ⟨q, t, l, cs, vs, z⟩ := p
 unfold jG Vz
 simp only [kr q t l cs vs z h.S, Option.bind_some]
 refine Ys (step := ko _ _) (fun x : S1 ⊕ S4 => 1000 - (sI x).toNat) (fun x => 0 ≤ (sI x) ∧ (sI x) ≤ 1000 ∧ SPp (sP x))
  (fun x => some (yfE (1000 - (sI x).toNat) (sI x) (sP x))) ?_ (Sum.inl (0, z, q, t, l, cs, vs)) ⟨Int.le_refl _, show (0 : Int) ≤ 1000 by decide, h⟩ (show 1000 - (0 : Int).toNat < 18446744073709551616 by decide)
 have key := fun i p again i0 i1 hp ha => y1z (F := yI) y8x (fun i _ => some i) (fun _ _ => some (1000 : Int)) i p again i0 i1 hp (fun m i p => some (yfE m i p)) (fun _ _ => rfl) (fun m i p => by
  rw [yfE]
  split <;> rfl) ha
 rintro again (⟨i, z, q, t, l, cs, vs⟩ | ⟨i, q, t, l, z, cs, vs⟩) ⟨i0, i1, hp⟩ hag
 ·exact key i (q, t, l, cs, vs, z) (fun i x => again (Sum.inr (i, x.1, x.2.1, x.2.2.1, x.2.2.2.2.2, x.2.2.2.1, x.2.2.2.2.1))) i0 i1 hp fun p' hp' hi => hag (Sum.inr (i + 1, p'.1, p'.2.1, p'.2.2.1, p'.2.2.2.2.2, p'.2.2.2.1, p'.2.2.2.2.1)) ⟨by simp only [sI] at i0 ⊢; omega, by simp only [sI]; omega, hp'⟩ (by simp only [sI] at i0 ⊢; omega)
 ·exact key i (q, t, l, cs, vs, z) (fun i x => again (Sum.inr (i, x.1, x.2.1, x.2.2.1, x.2.2.2.2.2, x.2.2.2.1, x.2.2.2.2.1))) i0 i1 hp fun p' hp' hi => hag (Sum.inr (i + 1, p'.1, p'.2.1, p'.2.2.1, p'.2.2.2.2.2, p'.2.2.2.1, p'.2.2.2.2.1)) ⟨by simp only [sI] at i0 ⊢; omega, by simp only [sI]; omega, hp'⟩ (by simp only [sI] at i0 ⊢; omega)
theorem Qs (p : PO) (h : SPp p) : ZZ p = some (ydp 1000 p) := by
 obtain ⟨q, t, l, cs, vs, z⟩ := p
 unfold ZZ qB
 simp only [kr q t l cs vs z h.S, Option.bind_some]
 refine Ys (step := K5 _ _ _) (fun x : S2 ⊕ S3 => 1000 - (uI x).toNat) (fun x => 0 ≤ (uI x) ∧ (uI x) ≤ 1000 ∧ SPp (uP x))
  (fun x => some (ydp (1000 - (uI x).toNat) (uP x))) ?_ (Sum.inl (0, 0, z, q, t, l, cs, vs)) ⟨Int.le_refl _, show (0 : Int) ≤ 1000 by decide, h⟩ (show 1000 - (0 : Int).toNat < 18446744073709551616 by decide)
 have key := fun i p again i0 i1 hp ha => y1z (F := yI) y8x (fun _ p => some p) (fun _ p => some p) i p again i0 i1 hp (fun m i p => some (ydp m p)) (fun _ _ => rfl) (fun m i p => by
  rw [ydp]
  split <;> rfl) ha
 rintro again (⟨i, b, z, q, t, l, cs, vs⟩ | ⟨i, b, q, t, l, z, cs, vs⟩) ⟨i0, i1, hp⟩ hag
 ·exact key i (q, t, l, cs, vs, z) (fun i x => again (Sum.inr (i, b, x.1, x.2.1, x.2.2.1, x.2.2.2.2.2, x.2.2.2.1, x.2.2.2.2.1))) i0 i1 hp fun p' hp' hi => hag (Sum.inr (i + 1, b, p'.1, p'.2.1, p'.2.2.1, p'.2.2.2.2.2, p'.2.2.2.1, p'.2.2.2.2.1)) ⟨by simp only [uI] at i0 ⊢; omega, by simp only [uI]; omega, hp'⟩ (by simp only [uI] at i0 ⊢; omega)
 ·exact key i (q, t, l, cs, vs, z) (fun i x => again (Sum.inr (i, b, x.1, x.2.1, x.2.2.1, x.2.2.2.2.2, x.2.2.2.1, x.2.2.2.2.1))) i0 i1 hp fun p' hp' hi => hag (Sum.inr (i + 1, b, p'.1, p'.2.1, p'.2.2.1, p'.2.2.2.2.2, p'.2.2.2.1, p'.2.2.2.2.1)) ⟨by simp only [uI] at i0 ⊢; omega, by simp only [uI]; omega, hp'⟩ (by simp only [uI] at i0 ⊢; omega)
def yfl (p : PO) (n : Int) : List ye × List y8 × List yd × List yb × List yl × Int × Int := (p.1, p.2.1, p.2.2.1, p.2.2.2.1, p.2.2.2.2.1, p.2.2.2.2.2, n)
theorem y2h (p : PO) (h : SPp p) : W3 p = some (yfl (ydp 1000 p) (yfE 1000 0 p)) := by
 obtain ⟨q, t, l, cs, vs, z⟩ := p
 unfold W3 y1b
 simp only [Qq q t l cs vs z h.S, Option.bind_some]
 refine Ys (step := VM _ _ _) (fun x : S2 ⊕ (Int × Int × PO) => 1000 - (tI x).toNat) (fun x => 0 ≤ (tI x) ∧ (tI x) ≤ 1000 ∧ SPp (tP x))
  (fun x => some (yfl (ydp (1000 - (tI x).toNat) (tP x)) (yfE (1000 - (tI x).toNat) (tI x) (tP x)))) ?_ (Sum.inl (0, 0, z, q, t, l, cs, vs)) ⟨Int.le_refl _, show (0 : Int) ≤ 1000 by decide, h⟩ (show 1000 - (0 : Int).toNat < 18446744073709551616 by decide)
 have key := fun i p again i0 i1 hp ha => y1z (F := zy) ycB (fun i p => some (yfl p i)) (fun _ p => some (yfl p 1000)) i p again i0 i1 hp (fun m i p => some (yfl (ydp m p) (yfE m i p))) (fun _ _ => rfl) (fun m i p => by
  rw [ydp, yfE]
  split <;> rfl) ha
 rintro again (⟨i, b, z, q, t, l, cs, vs⟩ | ⟨i, b, q, t, l, cs, vs, z⟩) ⟨i0, i1, hp⟩ hag
 ·exact key i (q, t, l, cs, vs, z) (fun i x => again (Sum.inr (i, b, x))) i0 i1 hp fun p' hp' hi => hag (Sum.inr (i + 1, b, p')) ⟨by simp only [tI] at i0 ⊢; omega, by simp only [tI]; omega, hp'⟩ (by simp only [tI] at i0 ⊢; omega)
 ·exact key i (q, t, l, cs, vs, z) (fun i x => again (Sum.inr (i, b, x))) i0 i1 hp fun p' hp' hi => hag (Sum.inr (i + 1, b, p')) ⟨by simp only [tI] at i0 ⊢; omega, by simp only [tI]; omega, hp'⟩ (by simp only [tI] at i0 ⊢; omega)
theorem y2J (p : PO) (h : SPp p) : jF p = some (yfE 1000 0 p) := by
 unfold jF
 rw [y2h p h]
 rfl
theorem y3q (p : PO) (h : SPp p) : JB p = some (ydp 1000 p) := by
 unfold JB
 rw [y2h p h]
 rfl
end Go.Proofs.YthgdjjdigalckaaGreat.Pl
