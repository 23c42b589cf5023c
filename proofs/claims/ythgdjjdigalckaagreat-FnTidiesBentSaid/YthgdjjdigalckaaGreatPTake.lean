/- Base, Loops, Keys, Pool, Tree, Seen, Rng, Walk, See, Oks, Whole, Trees, Names, PoolOk, PoolOk2, PoolOk3, PutPool0, SetSrt, Join, CopyPool, Next, NodePut, JoinT, TreePut, CutAge, Calm, Prune, Take. No condition. -/
import Derived.Test.YthgdjjdigalckaaGreatDT1
import Derived.Laws.BitsLemmas
set_option linter.all false
namespace Go.Proofs.YthgdjjdigalckaaGreat.Pl
open Go.Proofs.YthgdjjdigalckaaGreat.R Go.Proofs.YthgdjjdigalckaaGreat.XT
theorem ykt {T R : Type} {step : (T → Option R) → T → Option R} (μ : T → Nat) (inv : T → Prop) (G : T → Option R)
  (h : ∀ again t, inv t → (∀ t', inv t' → μ t' < μ t → again t' = G t') → step again t = G t) : ∀ (n : Nat) (t : T), inv t → μ t < n → zE step n t = G t := by
 intro n
 induction n with
 | zero => intro t _ hn; omega
 | succ n ih =>
  intro t ht hn
  rw [zE]
  exact h _ t ht fun t' ht' hlt => ih t' ht' (by omega)
theorem Yo {T R : Type} {step : (T → Option R) → T → Option R} (μ : T → Nat) (inv : T → Prop) (G : T → Option R)
  (h : ∀ again t, inv t → (∀ t', inv t' → μ t' < μ t → again t' = G t') → step again t = G t) (t : T) (ht : inv t) (hn : μ t < 18446744073709551616) : zE step zW t = G t :=
 ykt μ inv G h zW t ht (by rw [y0e]; exact hn)
theorem w64 {n : Int} (h0 : -9223372036854775808 ≤ n) (h1 : n ≤ 9223372036854775807) : Go.IntKind.wrap .i64 n = n := by
 rw [IntKind.wrap_i64]
 omega
def inR (x a b : Int) : Bool := decide (a ≤ x) && decide (x ≤ b)
theorem zZ {x a b : Int} : inR x a b = true ↔ a ≤ x ∧ x ≤ b := by simp [inR]
theorem ybC (n : Nat) (h : n < 9223372036854775808) : IntKind.i64.wrap (n : Int) = n := by
 rw [IntKind.wrap_i64]
 omega
theorem y9y (x : Int) : ((BitVec.ofInt 64 x).toNat : Int) = x % 18446744073709551616 := by
 rw [BitVec.toNat_ofInt]
 omega
theorem yfo (x : Int) (m : Nat) (j : Nat) (hj : j < 63) (hm : m = 2 ^ j - 1) : bits .and .i64 x m = x % (2 ^ j : Nat) := by
 have hd : (2 ^ j : Nat) ∣ 18446744073709551616 := by
  have : (18446744073709551616 : Nat) = 2 ^ j * 2 ^ (64 - j) := by rw [← Nat.pow_add, show j + (64 - j) = 64 by omega]
  rw [this]
  exact Nat.dvd_mul_right _ _
 have hlt : m < 18446744073709551616 := by
  have : 2 ^ j ≤ 2 ^ 64 := Nat.pow_le_pow_right (by omega) (by omega)
  have h1 : 0 < 2 ^ j := Nat.two_pow_pos j
  omega
 have hj63 : 2 ^ j < 9223372036854775808 := by
  have : 2 ^ j ≤ 2 ^ 62 := Nat.pow_le_pow_right (by omega) (by omega)
  omega
 show IntKind.i64.wrap ((BitVec.ofInt 64 x &&& BitVec.ofInt 64 (m : Int)).toNat : Int) = _
 rw [BitVec.toNat_and, BitVec.ofInt_natCast, BitVec.toNat_ofNat, Nat.mod_eq_of_lt hlt, hm, Nat.and_two_pow_sub_one_eq_mod]
 have h2 := Nat.mod_lt (BitVec.ofInt 64 x).toNat (Nat.two_pow_pos j)
 rw [ybC _ (by omega), Int.natCast_emod, y9y]
 exact Int.emod_emod_of_dvd _ (Int.ofNat_dvd.2 hd)
theorem yrP (x : Int) : bits .and .i64 x 255 = x % 256 := yfo x 255 8 (by omega) (by decide)
def by_ (l : List Int) (i : Int) : Int := l.getD i.toNat 0
end Go.Proofs.YthgdjjdigalckaaGreat.Pl
namespace Go.Proofs.YthgdjjdigalckaaGreat.Pl
open Go.Proofs.YthgdjjdigalckaaGreat.R Go.Proofs.YthgdjjdigalckaaGreat.XT
theorem Z4 {T R : Type} {step : (T → Option R) → T → Option R} (μ : T → Nat) (inv : T → Prop) (Q : T → Option R → Prop)
  (h : ∀ again t, inv t → (∀ t', inv t' → μ t' < μ t → Q t' (again t')) → Q t (step again t)) (t : T) (ht : inv t) (hn : μ t < 18446744073709551616) : Q t (zE step zW t) := by
 have key : ∀ (n : Nat) (t : T), inv t → μ t < n → Q t (zE step n t) := by
  intro n
  induction n with
  | zero => intro t _ hn; omega
  | succ n ih =>
   intro t ht hn
   rw [zE]
   exact h _ t ht fun t' ht' hlt => ih t' ht' (by omega)
 exact key zW t ht (by rw [y0e]; exact hn)
theorem y6U {A : Type} (da : A) (l : List A) (i : Int) (h0 : 0 ≤ i) (h : i < l.length) : l.getD i.toNat da = l[i.toNat]'(by omega) := by
 rw [List.getD_eq_getElem?_getD, List.getElem?_eq_getElem (by omega)]
 rfl
theorem zi {A : Type} (da : A) (l : List A) (i : Int) (h0 : 0 ≤ i) (h : i < l.length) : l.getD i.toNat da ∈ l := by
 rw [y6U da l i h0 h]
 exact List.getElem_mem _
theorem w8 {A : Type} (da : A) (l : List A) (i : Int) (h0 : 0 ≤ i) (h : i < l.length) : l.drop i.toNat = l.getD i.toNat da :: l.drop (i + 1).toNat := by
 rw [y6U da l i h0 h, show (i + 1).toNat = i.toNat + 1 by omega, ← List.drop_eq_getElem_cons]
def wK {A : Type} (w : A → Int) (l : List A) : Int := l.foldr (fun a s => w a + s) 0
theorem Y0 {A : Type} (w : A → Int) (a : A) (l : List A) : wK w (a :: l) = w a + wK w l := rfl
theorem QH {A : Type} {w : A → Int} (hw : ∀ a, 0 ≤ w a) : ∀ {l : List A} {a : A}, a ∈ l → w a ≤ wK w l ∧ 0 ≤ wK w l
 | b :: l, a, h => by
  have hs : 0 ≤ wK w l := by
   clear h
   induction l with
   | nil => exact Int.le_refl _
   | cons c l ih => rw [Y0]; have := hw c; omega
  rw [Y0]
  have := hw b
  rcases List.mem_cons.1 h with rfl | h
  ·omega
  ·have := (QH hw h).1
   omega
theorem wy {A : Type} {w : A → Int} (hw : ∀ a, 0 ≤ w a) (l : List A) : 0 ≤ wK w l := by
 induction l with
 | nil => exact Int.le_refl _
 | cons c l ih => rw [Y0]; have := hw c; omega
end Go.Proofs.YthgdjjdigalckaaGreat.Pl
namespace Go.Proofs.YthgdjjdigalckaaGreat.Pl
open Go.Proofs.YthgdjjdigalckaaGreat.R Go.Proofs.YthgdjjdigalckaaGreat.XT
theorem Ye {T A S R : Type} {step : (T → Option R) → T → Option R} (mk : Int → S → T) (k : S → Option R) (da : A) (g : S → A → S) (l : List A) (hl : l.length ≤ 1099511627776) (I : Nat → S → Prop)
  (h : ∀ again i s, 0 ≤ i → i < (l.length : Int) → I i.toNat s → step again (mk i s) = again (mk (i + 1) (g s (l.getD i.toNat da))) ∧ I (i.toNat + 1) (g s (l.getD i.toNat da)))
  (hd : ∀ again i s, ¬ i < (l.length : Int) → step again (mk i s) = k s) (s : S) (hs : I 0 s) : zE step zW (mk 0 s) = k (l.foldl g s) := by
 have key : ∀ (n : Nat) (i : Int) (s : S), 0 ≤ i → i ≤ l.length → I i.toNat s → l.length - i.toNat < n → zE step n (mk i s) = k ((l.drop i.toNat).foldl g s) := by
  intro n
  induction n with
  | zero => intro i s _ _ _ hn; omega
  | succ n ih =>
   intro i s h0 h1 hI hn
   rw [zE]
   by_cases hi : i < (l.length : Int)
   ·obtain ⟨e, hI'⟩ := h (zE step n) i s h0 hi hI
    have e1 : (i + 1).toNat = i.toNat + 1 := by omega
    rw [e, ih (i + 1) _ (by omega) (by omega) (by rw [e1]; exact hI') (by omega), w8 da l i h0 hi]
    rfl
   ·rw [hd _ i s hi, List.drop_of_length_le (by omega)]
    rfl
 have := key zW 0 s (by omega) (by omega) hs (by rw [y0e]; simp; omega)
 simpa using this
def VS (c k : ya) : Bool := if c.1 < k.1 then true else if c.1 = k.1 then decide (c.2.1 < k.2.1) else false
def VT (c k : ya) : Bool := decide (c.1 = k.1) && decide (c.2.1 = k.2.1)
theorem Ql (a1 a2 a3 a4 a5 b1 b2 b3 b4 b5 : Int) : jk (a1, a2, a3, a4, a5, b1, b2, b3, b4, b5) = some (VS (a1, a2, a3, a4, a5) (b1, b2, b3, b4, b5)) := by
 unfold jk VS
 by_cases h : a1 = b1
 ·subst h
  simp
 ·have hb : (a1 == b1) = false := by simpa using h
  have hb' : (a1 != b1) = true := by simpa using h
  by_cases h2 : a1 < b1 <;> simp [h, h2, hb, hb']
theorem Qm (a1 a2 a3 a4 a5 b1 b2 b3 b4 b5 : Int) : jo (a1, a2, a3, a4, a5, b1, b2, b3, b4, b5) = some (VS (a1, a2, a3, a4, a5) (b1, b2, b3, b4, b5)) := by
 unfold jo VS
 by_cases h : a1 = b1
 ·subst h
  simp
 ·have hb : (a1 == b1) = false := by simpa using h
  have hb' : (a1 != b1) = true := by simpa using h
  by_cases h2 : a1 < b1 <;> simp [h, h2, hb, hb']
theorem y1T (a1 a2 a3 a4 a5 b1 b2 b3 b4 b5 : Int) : Zh (a1, a2, a3, a4, a5, b1, b2, b3, b4, b5) = some (VT (a1, a2, a3, a4, a5) (b1, b2, b3, b4, b5)) := by
 unfold Zh VT
 have e1 : (a1 == b1) = decide (a1 = b1) := rfl
 have e2 : (a2 == b2) = decide (a2 = b2) := rfl
 simp only [e1, e2]
 cases decide (a1 = b1) <;> cases decide (a2 = b2) <;> rfl
theorem y1U (a1 a2 a3 a4 a5 b1 b2 b3 b4 b5 : Int) : Zo (a1, a2, a3, a4, a5, b1, b2, b3, b4, b5) = some (VT (a1, a2, a3, a4, a5) (b1, b2, b3, b4, b5)) := by
 unfold Zo VT
 have e1 : (a1 == b1) = decide (a1 = b1) := rfl
 have e2 : (a2 == b2) = decide (a2 = b2) := rfl
 simp only [e1, e2]
 cases decide (a1 = b1) <;> cases decide (a2 = b2) <;> rfl
theorem ysr {n k : Nat} (h : n ≤ 1073741825) (hk : (1073741825 + k) * 40 < 140737488355328) : (n + k) * 40 < 140737488355328 := by omega
def jr (k : ya) (s : Bool × List ya) (c : ya) : Bool × List ya :=
 if s.1 = false ∧ VS c k = false then (true, if VT c k then s.2 ++ [k] else s.2 ++ [k] ++ [c]) else (s.1, if VT c k then s.2 else s.2 ++ [c])
def JC (l : List ya) (k : ya) : List ya :=
 let r := l.foldl (jr k) (false, [])
 if r.1 then r.2 else r.2 ++ [k]
def pN (p : Bool) : Nat := if p then 1 else 0
theorem y3m (k : ya) (s : Bool × List ya) (c : ya) : (jr k s c).2.length + pN s.1 ≤ s.2.length + 1 + pN (jr k s c).1 ∧ pN (jr k s c).1 ≤ 1 := by
 unfold jr pN
 obtain ⟨p, o⟩ := s
 cases p <;> cases VS c k <;> cases VT c k <;> simp
theorem QI (k : ya) : ∀ (l : List ya) (s : Bool × List ya), (l.foldl (jr k) s).2.length + pN s.1 ≤ s.2.length + l.length + pN (l.foldl (jr k) s).1
 | [], s => by simp
 | c :: l, s => by
  have h1 := (y3m k s c).1
  have h2 := QI k l (jr k s c)
  simp only [List.foldl_cons, List.length_cons] at h2 ⊢
  omega
theorem JA (l : List ya) (k : ya) : (JC l k).length ≤ l.length + 1 := by
 have h := QI k l (false, [])
 unfold JC
 simp only [pN, List.length_nil, Bool.false_eq_true, if_false] at h ⊢
 cases hr : (l.foldl (jr k) (false, [])).1 with
 | true =>
  rw [hr] at h
  simp at h ⊢
  omega
 | false =>
  rw [hr] at h
  simp at h ⊢
  omega
theorem y1V {R : Type} (k0 : Bool × Int × Int × Int × Int × Int × List ya → Option R) (again : wT → Option R) (l : List ya) (i : Int) (p : Bool) (a b c d e : Int) (o : List ya) (hl : l.length ≤ 1073741824) (h0 : 0 ≤ i) (h1 : i < (l.length : Int)) (ho : o.length ≤ 1073741825) :
  Yy k0 again (l, p, i, a, b, c, d, e, o) = again (l, (jr (a, b, c, d, e) (p, o) (l.getD i.toNat yL)).1, i + 1, a, b, c, d, e, (jr (a, b, c, d, e) (p, o) (l.getD i.toNat yL)).2) := by
 have hw : Go.IntKind.wrap .i64 (i + 1) = i + 1 := w64 (by omega) (by omega)
 have c1 : (o.length + (0 + 1)) * 40 < 140737488355328 := ysr ho (by decide)
 have c2 : (o.length + (0 + 1) + (0 + 1)) * 40 < 140737488355328 := by rw [Nat.add_assoc]; exact ysr ho (by decide)
 obtain ⟨⟨x1, x2, x3, x4, x5⟩, hx⟩ : ∃ x, y8 l i = x := ⟨_, rfl⟩
 have hx' : l.getD i.toNat yL = (x1, x2, x3, x4, x5) := hx
 rw [hx']
 unfold Yy
 simp only [Bool.cond_eq_ite, decide_eq_true_eq, h0, h1, if_true, hw, hx, Ql, y1T, Option.bind_some, List.length_append, List.length_cons, List.length_nil]
 unfold jr
 generalize VS (x1, x2, x3, x4, x5) (a, b, c, d, e) = q1
 generalize VT (x1, x2, x3, x4, x5) (a, b, c, d, e) = q2
 simp only [c1, c2, if_true]
 cases p <;> cases q1 <;> cases q2 <;> rfl
theorem y1W {R : Type} (k0 : Bool × Int × Int × Int × Int × Int × List ya → Option R) (l : List ya) (a b c d e : Int) (hl : l.length ≤ 1073741824) :
  KB k0 (l, false, 0, a, b, c, d, e, []) = k0 ((l.foldl (jr (a, b, c, d, e)) (false, [])).1, a, b, c, d, e, (l.foldl (jr (a, b, c, d, e)) (false, [])).2) := by
 unfold KB
 refine Ye (step := Yy k0) (fun (i : Int) (s : Bool × List ya) => (l, s.1, i, a, b, c, d, e, s.2)) (fun s => k0 (s.1, a, b, c, d, e, s.2)) yL (jr (a, b, c, d, e)) l (by omega) (fun i s => s.2.length ≤ i + pN s.1) ?_ ?_ (false, []) (by simp)
 ·rintro again i ⟨p, o⟩ h0 h1 hI
  have hp : pN p ≤ 1 := by cases p <;> decide
  have hI' : o.length ≤ i.toNat + pN p := hI
  clear hI
  refine ⟨y1V k0 again l i p a b c d e o hl h0 h1 (by omega), ?_⟩
  have ho := (y3m (a, b, c, d, e) (p, o) (l.getD i.toNat yL)).1
  show (jr (a, b, c, d, e) (p, o) (l.getD i.toNat yL)).2.length ≤ i.toNat + 1 + pN (jr (a, b, c, d, e) (p, o) (l.getD i.toNat yL)).1
  generalize (jr (a, b, c, d, e) (p, o) (l.getD i.toNat yL)) = r at ho ⊢
  simp only at ho
  omega
 ·rintro again i ⟨p, o⟩ hi
  show Yy k0 again (l, p, i, a, b, c, d, e, o) = _
  unfold Yy
  simp only [Bool.cond_eq_ite, decide_eq_true_eq, if_neg hi]
theorem w9 (l : List ya) (a b c d e : Int) (hl : l.length ≤ 1073741824) : zp (l, a, b, c, d, e) = some (JC l (a, b, c, d, e)) := by
 have hlen := QI (a, b, c, d, e) l (false, [])
 unfold zp JC
 rw [y1W _ l a b c d e hl]
 generalize l.foldl (jr (a, b, c, d, e)) (false, []) = r at hlen ⊢
 obtain ⟨q, o⟩ := r
 cases q with
 | true => rfl
 | false =>
  simp only [pN, List.length_nil, Bool.false_eq_true, if_false] at hlen
  simp only [Bool.not_false, cond_true, List.length_cons, List.length_nil, Bool.false_eq_true, if_false]
  rw [if_pos (by omega)]
theorem y1X {R : Type} (k0 : Bool × Int × Int × Int × Int × Int × List ya → Option R) (again : Wu → Option R) (l : List ya) (i : Int) (p : Bool) (a b c d e : Int) (o : List ya) (hl : l.length ≤ 1073741824) (h0 : 0 ≤ i) (h1 : i < (l.length : Int)) (ho : o.length ≤ 1073741825) :
  YD k0 again (p, l, (l.length : Int), i, a, b, c, d, e, o) = again ((jr (a, b, c, d, e) (p, o) (l.getD i.toNat yL)).1, l, (l.length : Int), i + 1, a, b, c, d, e, (jr (a, b, c, d, e) (p, o) (l.getD i.toNat yL)).2) := by
 have hw : Go.IntKind.wrap .i64 (i + 1) = i + 1 := w64 (by omega) (by omega)
 have c1 : (o.length + (0 + 1)) * 40 < 140737488355328 := ysr ho (by decide)
 have c2 : (o.length + (0 + 1) + (0 + 1)) * 40 < 140737488355328 := by rw [Nat.add_assoc]; exact ysr ho (by decide)
 obtain ⟨⟨x1, x2, x3, x4, x5⟩, hx⟩ : ∃ x, y8 l i = x := ⟨_, rfl⟩
 have hx' : l.getD i.toNat yL = (x1, x2, x3, x4, x5) := hx
 rw [hx']
 unfold YD
 simp only [Bool.cond_eq_ite, decide_eq_true_eq, h0, h1, if_true, hw, hx, Qm, y1U, Option.bind_some, List.length_append, List.length_cons, List.length_nil]
 unfold jr
 generalize VS (x1, x2, x3, x4, x5) (a, b, c, d, e) = q1
 generalize VT (x1, x2, x3, x4, x5) (a, b, c, d, e) = q2
 simp only [c1, c2, if_true]
 cases p <;> cases q1 <;> cases q2 <;> rfl
theorem y1Y {R : Type} (k0 : Bool × Int × Int × Int × Int × Int × List ya → Option R) (l : List ya) (a b c d e : Int) (hl : l.length ≤ 1073741824) :
  KX k0 (false, l, (l.length : Int), 0, a, b, c, d, e, []) = k0 ((l.foldl (jr (a, b, c, d, e)) (false, [])).1, a, b, c, d, e, (l.foldl (jr (a, b, c, d, e)) (false, [])).2) := by
 unfold KX
 refine Ye (step := YD k0) (fun (i : Int) (s : Bool × List ya) => (s.1, l, (l.length : Int), i, a, b, c, d, e, s.2)) (fun s => k0 (s.1, a, b, c, d, e, s.2)) yL (jr (a, b, c, d, e)) l (by omega) (fun i s => s.2.length ≤ i + pN s.1) ?_ ?_ (false, []) (by simp)
 ·rintro again i ⟨p, o⟩ h0 h1 hI
  have hp : pN p ≤ 1 := by cases p <;> decide
  have hI' : o.length ≤ i.toNat + pN p := hI
  clear hI
  refine ⟨y1X k0 again l i p a b c d e o hl h0 h1 (by omega), ?_⟩
  have ho := (y3m (a, b, c, d, e) (p, o) (l.getD i.toNat yL)).1
  show (jr (a, b, c, d, e) (p, o) (l.getD i.toNat yL)).2.length ≤ i.toNat + 1 + pN (jr (a, b, c, d, e) (p, o) (l.getD i.toNat yL)).1
  generalize (jr (a, b, c, d, e) (p, o) (l.getD i.toNat yL)) = r at ho ⊢
  simp only at ho
  omega
 ·rintro again i ⟨p, o⟩ hi
  show YD k0 again (p, l, (l.length : Int), i, a, b, c, d, e, o) = _
  unfold YD
  simp only [Bool.cond_eq_ite, decide_eq_true_eq, if_neg hi]
theorem V0 (l : List ya) (a b c d e : Int) (hl : l.length ≤ 1073741824) : ZR (l, a, b, c, d, e) = some (JC l (a, b, c, d, e)) := by
 have hlen := QI (a, b, c, d, e) l (false, [])
 unfold ZR JC
 rw [y1Y _ l a b c d e hl]
 generalize l.foldl (jr (a, b, c, d, e)) (false, []) = r at hlen ⊢
 obtain ⟨q, o⟩ := r
 cases q with
 | true => rfl
 | false =>
  simp only [pN, List.length_nil, Bool.false_eq_true, if_false] at hlen
  simp only [Bool.not_false, cond_true, List.length_cons, List.length_nil, Bool.false_eq_true, if_false]
  rw [if_pos (by omega)]
end Go.Proofs.YthgdjjdigalckaaGreat.Pl
namespace Go.Proofs.YthgdjjdigalckaaGreat.Pl
open Go.Proofs.YthgdjjdigalckaaGreat.R Go.Proofs.YthgdjjdigalckaaGreat.XT
def qB (l : List yb) : Int := (List.length l : Int) + wK (fun a : yb => (List.length a : Int)) l
theorem kX (l : List yb) : 0 ≤ qB l := by
 have := wy (w := fun a : yb => (List.length a : Int)) (fun a => Int.natCast_nonneg _) l
 unfold qB
 omega
end Go.Proofs.YthgdjjdigalckaaGreat.Pl
namespace Go.Proofs.YthgdjjdigalckaaGreat.Pl
open Go.Proofs.YthgdjjdigalckaaGreat.R Go.Proofs.YthgdjjdigalckaaGreat.XT
def wL (a b : List ya) : List ya := b.foldl JC a
theorem QJ : ∀ (b a : List ya), (wL a b).length ≤ a.length + b.length
 | [], a => by simp [wL]
 | c :: b, a => by
  have h := QJ b (JC a c)
  have h2 := JA a c
  unfold wL at h ⊢
  simp only [List.foldl_cons, List.length_cons] at h ⊢
  omega
def vj (s : List ya) (c : ya) : List ya := if c.2.2.1 = 0 then s else s ++ [c]
def y3n (l : List ya) : List ya := l.foldl vj []
theorem y0h (s : List ya) (c : ya) : (vj s c).length ≤ s.length + 1 := by
 unfold vj
 split <;> simp
theorem y3o : ∀ (l s : List ya), (l.foldl vj s).length ≤ s.length + l.length
 | [], s => by simp
 | c :: l, s => by
  have h := y3o l (vj s c)
  have h2 := y0h s c
  simp only [List.foldl_cons, List.length_cons]
  omega
def vv (a : yb) : Int := (List.length a : Int)
theorem kp (a : yb) : 0 ≤ vv a := Int.natCast_nonneg _
def yZ (n : List yb) : List ya := y3n (n.foldl wL [])
theorem y0M : ∀ (n : List yb) (s : List ya), ((n.foldl wL s).length : Int) ≤ s.length + wK vv n
 | [], s => by simp [wK]
 | c :: n, s => by
  have h := y0M n (wL s c)
  have h2 := QJ c s
  simp only [List.foldl_cons, Y0, vv]
  omega
theorem vk (n : List yb) : ((yZ n).length : Int) ≤ wK vv n := by
 have h := y3o (n.foldl wL []) []
 have h2 := y0M n []
 unfold yZ y3n
 simp only [List.length_nil] at h h2
 omega
theorem y0N (n : List yb) : wK vv n ≤ qB n := by
 show wK (fun a : yb => (List.length a : Int)) n ≤ (List.length n : Int) + wK (fun a : yb => (List.length a : Int)) n
 omega
def Kb (s : List ya) (n : y0) : List ya := s ++ yZ n
def z4 (t : List y0) : List ya := t.foldl Kb []
theorem y1g (a b : List ya) (h : a.length + b.length ≤ 1073741824) : YK (a, b) = some (wL a b) := by
 unfold YK vF
 simp only [List.length_nil, Nat.zero_add, List.nil_append]
 rw [if_pos (by omega)]
 refine Ye (step := YR _) (fun (i : Int) (s : List ya) => (b, i, s)) (fun s => some s) yL JC b (by omega) (fun i s => s.length ≤ a.length + i) ?_ ?_ a (by simp)
 ·intro again i s h0 h1 hI
  have hw : Go.IntKind.wrap .i64 (i + 1) = i + 1 := w64 (by omega) (by omega)
  have hs := JA s (b.getD i.toNat yL)
  have e := w9 s (y8 b i).1 (y8 b i).2.1 (y8 b i).2.2.1 (y8 b i).2.2.2.1 (y8 b i).2.2.2.2 (by omega)
  refine ⟨?_, by omega⟩
  unfold YR
  simp only [Bool.cond_eq_ite, decide_eq_true_eq, h0, h1, if_true, hw, e, Option.bind_some]
  rfl
 ·intro again i s hi
  unfold YR
  simp only [Bool.cond_eq_ite, decide_eq_true_eq, if_neg hi]
theorem Qn (l : List ya) (h : l.length ≤ 1073741824) : zS l = some (y3n l) := by
 unfold zS y0J
 refine Ye (step := wS _) (fun (i : Int) (s : List ya) => (l, i, s)) (fun s => some s) yL vj l (by omega) (fun i s => s.length ≤ i) ?_ ?_ [] (by simp)
 ·intro again i s h0 h1 hI
  have hw : Go.IntKind.wrap .i64 (i + 1) = i + 1 := w64 (by omega) (by omega)
  have hs := y0h s (l.getD i.toNat yL)
  refine ⟨?_, by omega⟩
  have c1 : (s.length + 1) * 40 < 140737488355328 := by omega
  clear hs
  unfold wS vj
  obtain ⟨⟨x1, x2, x3, x4, x5⟩, hx⟩ : ∃ x, y8 l i = x := ⟨_, rfl⟩
  have hx' : l.getD i.toNat yL = (x1, x2, x3, x4, x5) := hx
  rw [hx']
  simp only [Bool.cond_eq_ite, decide_eq_true_eq, h0, h1, if_true, hw, hx, List.length_cons, List.length_nil, Nat.zero_add, c1]
  by_cases h3 : x3 = 0
  ·rw [if_neg (by simpa using h3), if_pos h3]
  ·rw [if_pos (by simpa using h3), if_neg h3]
 ·intro again i s hi
  unfold wS
  simp only [Bool.cond_eq_ite, decide_eq_true_eq, if_neg hi]
theorem YO (n : List yb) (hn : n.length ≤ 1073741824) (h : wK vv n ≤ 1048576) : yA n = some (yZ n) := by
 have hlen := y0M n []
 simp only [List.length_nil] at hlen
 have hD := Qn (n.foldl wL []) (by omega)
 unfold yA Vg
 refine (Ye (step := Zi _) (fun (i : Int) (s : List ya) => (i, n, s)) (fun s => Option.bind (zS s) fun r3 => some r3) z6 wL n (by omega) (fun i s => (s.length : Int) + wK vv (n.drop i) ≤ wK vv n) ?_ ?_ [] (by simp)).trans ?_
 ·intro again i s h0 h1 hI
  have hw : Go.IntKind.wrap .i64 (i + 1) = i + 1 := w64 (by omega) (by omega)
  rw [w8 z6 n i h0 h1, Y0, show (i + 1).toNat = i.toNat + 1 by omega] at hI
  have hnn := wy kp (n.drop (i.toNat + 1))
  have hm := QJ (n.getD i.toNat z6) s
  have hk : vv (n.getD i.toNat z6) = (List.length (n.getD i.toNat z6) : Int) := rfl
  have e : YK (s, yp n i) = some (wL s (yp n i)) := y1g s _ (by show s.length + List.length (n.getD i.toNat z6) ≤ _; omega)
  refine ⟨?_, by omega⟩
  unfold Zi
  simp only [Bool.cond_eq_ite, decide_eq_true_eq, h0, h1, if_true, hw, e, Option.bind_some]
  rfl
 ·intro again i s hi
  unfold Zi
  simp only [Bool.cond_eq_ite, decide_eq_true_eq, if_neg hi]
 ·rw [hD]
  rfl
theorem zY (q : List Int) (t : List y0) (ht : t.length ≤ 1073741824) (hm : ∀ n ∈ t, List.length n ≤ 1073741824) (h : wK qB t ≤ 1048576) : yG (q, t) = some (z4 t) := by
 unfold yG Vh
 refine Ye (step := Zj _) (fun (i : Int) (s : List ya) => (i, q, t, s)) (fun s => some s) yB Kb t (by omega) (fun i s => (s.length : Int) + wK qB (t.drop i) ≤ wK qB t) ?_ ?_ [] (by simp)
 ·intro again i s h0 h1 hI
  have hw : Go.IntKind.wrap .i64 (i + 1) = i + 1 := w64 (by omega) (by omega)
  rw [w8 yB t i h0 h1, Y0, show (i + 1).toNat = i.toNat + 1 by omega] at hI
  have hnn := wy kX (t.drop (i.toNat + 1))
  have hge := y0N (t.getD i.toNat yB)
  have hk := vk (t.getD i.toNat yB)
  have e : yA (yg t i) = some (yZ (yg t i)) := YO _ (hm _ (zi yB t i h0 h1)) (by show wK vv (t.getD i.toNat yB) ≤ _; omega)
  have hT : (Kb s (t.getD i.toNat yB)).length = s.length + (yZ (t.getD i.toNat yB)).length := List.length_append
  have c1 : (s.length + (yZ (yg t i)).length) * 40 < 140737488355328 := by
   show (s.length + (yZ (t.getD i.toNat yB)).length) * 40 < 140737488355328
   generalize (yZ (t.getD i.toNat yB)).length = m at hk ⊢
   clear hT e
   have : s.length + m ≤ 1048576 := by omega
   omega
  refine ⟨?_, by rw [hT]; omega⟩
  unfold Zj
  simp only [Bool.cond_eq_ite, decide_eq_true_eq, h0, h1, if_true, hw, e, Option.bind_some, c1]
  rfl
 ·intro again i s hi
  unfold Zj
  simp only [Bool.cond_eq_ite, decide_eq_true_eq, if_neg hi]
theorem y1h (a b : List ya) (h : a.length + b.length ≤ 1073741824) : YN (a, b) = some (wL a b) := by
 unfold YN zU vL
 simp only [List.length_nil, Nat.zero_add, List.nil_append]
 rw [if_pos (by omega), Option.bind_some]
 refine Ye (step := YY _) (fun (i : Int) (s : List ya) => (b, (b.length : Int), i, s)) (fun s => some s) yL JC b (by omega) (fun i s => s.length ≤ a.length + i) ?_ ?_ a (by simp)
 ·intro again i s h0 h1 hI
  have hw : Go.IntKind.wrap .i64 (i + 1) = i + 1 := w64 (by omega) (by omega)
  have hs := JA s (b.getD i.toNat yL)
  have e := V0 s (y8 b i).1 (y8 b i).2.1 (y8 b i).2.2.1 (y8 b i).2.2.2.1 (y8 b i).2.2.2.2 (by omega)
  refine ⟨?_, by omega⟩
  unfold YY
  simp only [Bool.cond_eq_ite, decide_eq_true_eq, h0, h1, if_true, hw, e, Option.bind_some]
  rfl
 ·intro again i s hi
  unfold YY
  simp only [Bool.cond_eq_ite, decide_eq_true_eq, if_neg hi]
theorem y1H (l : List ya) (h : l.length ≤ 1073741824) : jV l = some (y3n l) := by
 unfold jV y0L
 refine Ye (step := Ww _) (fun (i : Int) (s : List ya) => (l, (l.length : Int), i, s)) (fun s => some s) yL vj l (by omega) (fun i s => s.length ≤ i) ?_ ?_ [] (by simp)
 ·intro again i s h0 h1 hI
  have hw : Go.IntKind.wrap .i64 (i + 1) = i + 1 := w64 (by omega) (by omega)
  have hs := y0h s (l.getD i.toNat yL)
  refine ⟨?_, by omega⟩
  have c1 : (s.length + 1) * 40 < 140737488355328 := by omega
  clear hs
  unfold Ww vj
  obtain ⟨⟨x1, x2, x3, x4, x5⟩, hx⟩ : ∃ x, y8 l i = x := ⟨_, rfl⟩
  have hx' : l.getD i.toNat yL = (x1, x2, x3, x4, x5) := hx
  rw [hx']
  simp only [Bool.cond_eq_ite, decide_eq_true_eq, h0, h1, if_true, hw, hx, List.length_cons, List.length_nil, Nat.zero_add, c1]
  by_cases h3 : x3 = 0
  ·rw [if_neg (by simpa using h3), if_pos h3]
  ·rw [if_pos (by simpa using h3), if_neg h3]
 ·intro again i s hi
  unfold Ww
  simp only [Bool.cond_eq_ite, decide_eq_true_eq, if_neg hi]
theorem jh (n : List yb) (hn : n.length ≤ 1073741824) (h : wK vv n ≤ 1048576) : yH n = some (yZ n) := by
 have hlen := y0M n []
 simp only [List.length_nil] at hlen
 have hD := y1H (n.foldl wL []) (by omega)
 unfold yH Vk
 refine (Ye (step := Zp _) (fun (i : Int) (s : List ya) => (n, (n.length : Int), i, s)) (fun s => Option.bind (jV s) fun r3 => some r3) z6 wL n (by omega) (fun i s => (s.length : Int) + wK vv (n.drop i) ≤ wK vv n) ?_ ?_ [] (by simp)).trans ?_
 ·intro again i s h0 h1 hI
  have hw : Go.IntKind.wrap .i64 (i + 1) = i + 1 := w64 (by omega) (by omega)
  rw [w8 z6 n i h0 h1, Y0, show (i + 1).toNat = i.toNat + 1 by omega] at hI
  have hnn := wy kp (n.drop (i.toNat + 1))
  have hm := QJ (n.getD i.toNat z6) s
  have hk : vv (n.getD i.toNat z6) = (List.length (n.getD i.toNat z6) : Int) := rfl
  have e : YN (s, yp n i) = some (wL s (yp n i)) := y1h s _ (by show s.length + List.length (n.getD i.toNat z6) ≤ _; omega)
  refine ⟨?_, by omega⟩
  unfold Zp
  simp only [Bool.cond_eq_ite, decide_eq_true_eq, h0, h1, if_true, hw, e, Option.bind_some]
  rfl
 ·intro again i s hi
  unfold Zp
  simp only [Bool.cond_eq_ite, decide_eq_true_eq, if_neg hi]
 ·rw [hD]
  rfl
theorem qv (q : List Int) (t : List y0) (ht : t.length ≤ 1073741824) (hm : ∀ n ∈ t, List.length n ≤ 1073741824) (h : wK qB t ≤ 1048576) : Yd (q, t) = some (z4 t) := by
 unfold Yd Vm
 refine Ye (step := Zs _) (fun (i : Int) (s : List ya) => (t, (t.length : Int), i, s)) (fun s => some s) yB Kb t (by omega) (fun i s => (s.length : Int) + wK qB (t.drop i) ≤ wK qB t) ?_ ?_ [] (by simp)
 ·intro again i s h0 h1 hI
  have hw : Go.IntKind.wrap .i64 (i + 1) = i + 1 := w64 (by omega) (by omega)
  rw [w8 yB t i h0 h1, Y0, show (i + 1).toNat = i.toNat + 1 by omega] at hI
  have hnn := wy kX (t.drop (i.toNat + 1))
  have hge := y0N (t.getD i.toNat yB)
  have hk := vk (t.getD i.toNat yB)
  have e : yH (yg t i) = some (yZ (yg t i)) := jh _ (hm _ (zi yB t i h0 h1)) (by show wK vv (t.getD i.toNat yB) ≤ _; omega)
  have hT : (Kb s (t.getD i.toNat yB)).length = s.length + (yZ (t.getD i.toNat yB)).length := List.length_append
  have c1 : (s.length + (yZ (yg t i)).length) * 40 < 140737488355328 := by
   show (s.length + (yZ (t.getD i.toNat yB)).length) * 40 < 140737488355328
   generalize (yZ (t.getD i.toNat yB)).length = m at hk ⊢
   clear hT e
   have : s.length + m ≤ 1048576 := by omega
   omega
  refine ⟨?_, by rw [hT]; omega⟩
  unfold Zs
  simp only [Bool.cond_eq_ite, decide_eq_true_eq, h0, h1, if_true, hw, e, Option.bind_some, c1]
  rfl
 ·intro again i s hi
  unfold Zs
  simp only [Bool.cond_eq_ite, decide_eq_true_eq, if_neg hi]
end Go.Proofs.YthgdjjdigalckaaGreat.Pl
namespace Go.Proofs.YthgdjjdigalckaaGreat.Pl
open Go.Proofs.YthgdjjdigalckaaGreat.R Go.Proofs.YthgdjjdigalckaaGreat.XT
def y7Y {S A R : Type} (g : Int → S → A → Except (Option R) S) (k : S → Option R) : List A → Int → S → Option R
 | [], _, s => k s
 | a :: l, i, s => match g i s a with
  | .error r => r
  | .ok s' => y7Y g k l (i + 1) s'
theorem y7Z {T A S R : Type} {step : (T → Option R) → T → Option R} (mk : Int → S → T) (g : Int → S → A → Except (Option R) S) (k : S → Option R) (da : A) (l : List A) (hl : l.length ≤ 1099511627776) (I : Nat → S → Prop)
  (h : ∀ again i s, 0 ≤ i → i < (l.length : Int) → I i.toNat s → (step again (mk i s) = match g i s (l.getD i.toNat da) with
   | .error r => r
   | .ok s' => again (mk (i + 1) s')) ∧ ∀ s', g i s (l.getD i.toNat da) = .ok s' → I (i.toNat + 1) s')
  (hd : ∀ again i s, ¬ i < (l.length : Int) → step again (mk i s) = k s) (s : S) (hs : I 0 s) : zE step zW (mk 0 s) = y7Y g k l 0 s := by
 have key : ∀ (n : Nat) (i : Int) (s : S), 0 ≤ i → i ≤ l.length → I i.toNat s → l.length - i.toNat < n → zE step n (mk i s) = y7Y g k (l.drop i.toNat) i s := by
  intro n
  induction n with
  | zero => intro i s _ _ _ hn; omega
  | succ n ih =>
   intro i s h0 h1 hI hn
   rw [zE]
   by_cases hi : i < (l.length : Int)
   ·obtain ⟨e, hI'⟩ := h (zE step n) i s h0 hi hI
    have e1 : (i + 1).toNat = i.toNat + 1 := by omega
    rw [e, w8 da l i h0 hi, y7Y]
    cases hg : g i s (l.getD i.toNat da) with
    | error r => rfl
    | ok s' => exact ih (i + 1) s' (by omega) (by omega) (by rw [e1]; exact hI' s' hg) (by omega)
   ·rw [hd _ i s hi, List.drop_of_length_le (by omega)]
    rfl
 have := key zW 0 s (by omega) (by omega) hs (by rw [y0e]; simp; omega)
 simpa using this
def Y7 {A : Type} (p : A → Bool) : List A → Int → Int
 | [], _ => -1
 | a :: l, i => if p a then i else Y7 p l (i + 1)
theorem y80 {A R : Type} (p : A → Bool) (hit : Int → Option R) (miss : Option R) : ∀ (l : List A) (i : Int), 0 ≤ i → y7Y (fun i (_ : Unit) a => if p a then .error (hit i) else .ok ()) (fun _ => miss) l i () = if Y7 p l i < 0 then miss else hit (Y7 p l i)
 | [], i, _ => by simp [y7Y, Y7]
 | a :: l, i, h => by
  rw [y7Y, Y7]
  by_cases hp : p a = true
  ·rw [if_pos hp, if_pos hp, if_neg (by omega)]
  ·rw [if_neg hp, if_neg hp]
   exact y80 p hit miss l (i + 1) (by omega)
theorem ZD {T A R : Type} {step : (T → Option R) → T → Option R} (mk : Int → T) (p : A → Bool) (hit : Int → Option R) (miss : Option R) (da : A) (l : List A) (hl : l.length ≤ 1099511627776)
  (h : ∀ again i, 0 ≤ i → i < (l.length : Int) → step again (mk i) = if p (l.getD i.toNat da) then hit i else again (mk (i + 1)))
  (hd : ∀ again i, ¬ i < (l.length : Int) → step again (mk i) = miss) : zE step zW (mk 0) = if Y7 p l 0 < 0 then miss else hit (Y7 p l 0) := by
 rw [← y80 p hit miss l 0 (Int.le_refl _)]
 refine y7Z (fun i (_ : Unit) => mk i) _ _ da l hl (fun _ _ => True) (fun again i s h0 h1 _ => ⟨?_, fun _ _ => trivial⟩) (fun again i s hi => hd again i hi) () trivial
 rw [h again i h0 h1]
 cases p (l.getD i.toNat da) <;> rfl
theorem wM {A : Type} (p : A → Bool) (da : A) : ∀ (l : List A) (i : Int), 0 ≤ i → Y7 p l i = -1 ∨ (i ≤ Y7 p l i ∧ Y7 p l i < i + l.length ∧ p (l.getD (Y7 p l i - i).toNat da) = true)
 | [], i, _ => .inl rfl
 | a :: l, i, h => by
  rw [Y7]
  by_cases hp : p a = true
  ·rw [if_pos hp]
   refine .inr ⟨Int.le_refl _, by simp only [List.length_cons]; omega, ?_⟩
   simpa using hp
  ·rw [if_neg hp]
   rcases wM p da l (i + 1) (by omega) with e | ⟨e1, e2, e3⟩
   ·exact .inl e
   ·refine .inr ⟨by omega, by simp only [List.length_cons]; omega, ?_⟩
    rw [show (Y7 p l (i + 1) - i).toNat = (Y7 p l (i + 1) - (i + 1)).toNat + 1 by omega, List.getD_cons_succ]
    exact e3
def Yp (l : List yd) (id : Int) : Int := Y7 (fun a : yd => a.1 == id) l 0
theorem y1i (l : List yd) (id : Int) : Yp l id = -1 ∨ (0 ≤ Yp l id ∧ Yp l id < l.length ∧ (l.getD (Yp l id).toNat YI).1 = id) := by
 rcases wM (fun a : yd => a.1 == id) YI l 0 (Int.le_refl _) with h | ⟨h1, h2, h3⟩
 ·exact .inl h
 ·refine .inr ⟨h1, by simpa [Yp] using h2, ?_⟩
  have := eq_of_beq h3
  simpa [Yp] using this
theorem Z5 (l : List yd) (id : Int) (hl : l.length ≤ 1073741824) : zD (l, id) = some (Yp l id) := by
 unfold zD QX
 refine (ZD (step := JK _ _) (fun i => (l, id, i)) (fun a : yd => a.1 == id) (fun x => some x) (some (-1)) YI l (by omega) ?_ ?_).trans ?_
 ·intro again i h0 h1
  have hw : Go.IntKind.wrap .i64 (i + 1) = i + 1 := w64 (by omega) (by omega)
  unfold JK
  simp only [Bool.cond_eq_ite, decide_eq_true_eq, h0, h1, if_true, hw]
  rfl
 ·intro again i hi
  unfold JK
  simp only [Bool.cond_eq_ite, decide_eq_true_eq, if_neg hi]
 ·rcases y1i l id with h | ⟨h1, h2, h3⟩ <;> unfold Yp at *
  ·rw [h]
   rfl
  ·rw [if_neg (by omega)]
theorem VU (l : List yd) (id : Int) (hl : l.length ≤ 1073741824) : ZI (l, id) = some (Yp l id) := by
 have key : yX (l, id) = some (Yp l id, id) := by
  unfold yX Yn
  refine (ZD (step := yT _ _) (fun i => (l, (l.length : Int), i, id)) (fun a : yd => a.1 == id) (fun x => some (x, id)) (some (-1, id)) YI l (by omega) ?_ ?_).trans ?_
  ·intro again i h0 h1
   have hw : Go.IntKind.wrap .i64 (i + 1) = i + 1 := w64 (by omega) (by omega)
   unfold yT kB
   simp only [Bool.cond_eq_ite, decide_eq_true_eq, h0, h1, if_true, hw, Option.bind_some]
   rfl
  ·intro again i hi
   unfold yT
   simp only [Bool.cond_eq_ite, decide_eq_true_eq, if_neg hi]
  ·rcases y1i l id with h | ⟨h1, h2, h3⟩ <;> unfold Yp at *
   ·rw [h]
    rfl
   ·rw [if_neg (by omega)]
 unfold ZI
 rw [key]
 rfl
def yrQ (l : List Int) (v : Int) : Bool := decide (0 ≤ Y7 (fun a : Int => a == v) l 0)
theorem y9z (l : List Int) (v : Int) (hl : l.length ≤ 1073741824) : kO (l, v) = some (yrQ l v) := by
 unfold kO y00
 refine (ZD (step := JQ _ _) (fun i => (l, v, i)) (fun a : Int => a == v) (fun _ => some true) (some false) y7V l (by omega) ?_ ?_).trans ?_
 ·intro again i h0 h1
  have hw : Go.IntKind.wrap .i64 (i + 1) = i + 1 := w64 (by omega) (by omega)
  unfold JQ
  simp only [Bool.cond_eq_ite, decide_eq_true_eq, h0, h1, if_true, hw]
  rfl
 ·intro again i hi
  unfold JQ
  simp only [Bool.cond_eq_ite, decide_eq_true_eq, if_neg hi]
 ·unfold yrQ
  by_cases h : Y7 (fun a : Int => a == v) l 0 < 0
  ·rw [if_pos h, decide_eq_false (by omega)]
  ·rw [if_neg h, decide_eq_true (by omega)]
def y1Z (l : List yd) : Nat → Int → List Int
 | 0, _ => []
 | n + 1, at_ => if at_ < 0 then [] else (l.getD at_.toNat YI).1 :: y1Z l n (Yp l (l.getD at_.toNat YI).2)
def y3p (l : List yd) (id : Int) : List Int := y1Z l (l.length + 1) (Yp l id)
theorem ydg (l : List yd) (n : Nat) (i : Int) (h : 0 ≤ i) : y1Z l (n + 1) i = (l.getD i.toNat YI).1 :: y1Z l n (Yp l (l.getD i.toNat YI).2) := by rw [y1Z, if_neg (by omega)]
theorem y81 (l : List yd) : ∀ (n : Nat) (i : Int), (y1Z l n i).length ≤ n
 | 0, _ => by simp [y1Z]
 | n + 1, i => by
  rw [y1Z]
  split
  ·simp
  ·have := y81 l n (Yp l (l.getD i.toNat YI).2)
   simp only [List.length_cons]
   omega
theorem y03 (l : List yd) (id : Int) (hl : l.length ≤ 1048576) : Jq (l, id) = some (y3p l id) := by
 unfold Jq Q0 y3p
 rw [Z5 l id (by omega), Option.bind_some]
 have key := Yo (step := W5 (fun x4 => some x4)) (fun t : W4 => l.length + 1 - t.2.2.length) (fun t => t.1 = l ∧ t.2.2.length ≤ l.length + 1 ∧ ∃ id, t.2.1 = Yp l id) (fun t => some (t.2.2 ++ y1Z l (l.length + 1 - t.2.2.length) t.2.1)) ?_ (l, Yp l id, []) ⟨rfl, by simp, id, rfl⟩ (by simp; omega)
 ·simpa using key
 ·rintro again ⟨l', at_, o⟩ ⟨hll, ho, id', hid⟩ hag
  simp only at hll ho hid
  subst hll hid
  unfold W5
  simp only [Bool.cond_eq_ite, decide_eq_true_eq, List.length_cons, List.length_nil, Nat.zero_add]
  rcases y1i l' id' with h | ⟨h1, h2, h3⟩
  ·rw [h]
   have : y1Z l' (l'.length + 1 - o.length) (-1) = [] := by
    cases l'.length + 1 - o.length <;> simp [y1Z]
   simp [this]
  ·simp only [ge_iff_le, h1, if_true, h2]
   by_cases hlen : (o.length : Int) ≤ (l'.length : Int)
   ·have e := Z5 l' (yK l' (Yp l' id')).2 (by omega)
    rw [show l'.length + 1 - o.length = (l'.length - o.length) + 1 by omega, ydg _ _ _ h1]
    simp only [hlen, decide_true, Option.bind_some, if_true, e]
    have hl1 : (o ++ [(yK l' (Yp l' id')).1]).length = o.length + 1 := by simp
    rw [if_pos (by omega), hag (l', Yp l' (yK l' (Yp l' id')).2, o ++ [(yK l' (Yp l' id')).1]) ⟨rfl, by show (o ++ [(yK l' (Yp l' id')).1]).length ≤ _; omega, _, rfl⟩ (by show l'.length + 1 - (o ++ [(yK l' (Yp l' id')).1]).length < l'.length + 1 - o.length; omega)]
    simp only [hl1]
    rw [show l'.length + 1 - (o.length + 1) = l'.length - o.length by omega, List.append_assoc]
    rfl
   ·rw [show l'.length + 1 - o.length = 0 by omega]
    simp [hlen, y1Z]
end Go.Proofs.YthgdjjdigalckaaGreat.Pl
namespace Go.Proofs.YthgdjjdigalckaaGreat.Pl
open Go.Proofs.YthgdjjdigalckaaGreat.R Go.Proofs.YthgdjjdigalckaaGreat.XT
theorem Yr (x a b : Int) : yz (x, a, b) = some (inR x a b) := by
 unfold yz inR
 by_cases h : x ≥ a <;> simp [h]
theorem Z6 (x a b : Int) : yF (x, a, b) = some (inR x a b) := by
 unfold yF inR
 by_cases h : x ≥ a <;> simp [h]
theorem bi (x y : Int) : ((x == y) = true) = (x = y) := by simp
end Go.Proofs.YthgdjjdigalckaaGreat.Pl
namespace Go.Proofs.YthgdjjdigalckaaGreat.Pl
open Go.Proofs.YthgdjjdigalckaaGreat.R Go.Proofs.YthgdjjdigalckaaGreat.XT
def Yh {A : Type} (p : Int → A → Bool) : List A → Int → Bool
 | [], _ => false
 | a :: l, i => p i a || Yh p l (i + 1)
theorem y9A {A : Type} (p q : Int → A → Bool) : ∀ (l : List A) (i : Int), Yh (fun i a => p i a || q i a) l i = (Yh p l i || Yh q l i)
 | [], _ => rfl
 | a :: l, i => by
  rw [Yh, Yh, Yh, y9A p q l (i + 1)]
  cases p i a <;> cases q i a <;> cases Yh p l (i + 1) <;> rfl
theorem y4R {A : Type} {p q : Int → A → Bool} : ∀ (l : List A) (i : Int), (∀ j a, i ≤ j → p j a = q j a) → Yh p l i = Yh q l i
 | [], _, _ => rfl
 | a :: l, i, h => by rw [Yh, Yh, h i a (Int.le_refl _), y4R l (i + 1) (fun j a hj => h j a (by omega))]
theorem y2H {A : Type} (da : A) {p : Int → A → Bool} : ∀ (l : List A) (i : Int), Yh p l i = false → ∀ j : Nat, j < l.length → p (i + j) (l.getD j da) = false
 | a :: l, i, h, 0, _ => by
  rw [Yh, Bool.or_eq_false_iff] at h
  simpa using h.1
 | a :: l, i, h, j + 1, hj => by
  rw [Yh, Bool.or_eq_false_iff] at h
  have := y2H da l (i + 1) h.2 j (by simpa using hj)
  rw [show i + ((j + 1 : Nat) : Int) = i + 1 + (j : Int) by omega, List.getD_cons_succ]
  exact this
theorem y2I {A S R : Type} (p : Int → A → Bool) (f : S → A → S) (r : Option R) (k : S → Option R) : ∀ (l : List A) (i : Int) (s : S), y7Y (fun i s a => if p i a = true then .error r else .ok (f s a)) k l i s = if Yh p l i = true then r else k (l.foldl f s)
 | [], _, _ => by simp [y7Y, Yh]
 | a :: l, i, s => by
  rw [y7Y, Yh]
  by_cases h : p i a = true
  ·simp [h]
  ·have hf : p i a = false := by simpa using h
   simp only [hf, Bool.false_eq_true, if_false, Bool.false_or, List.foldl_cons]
   exact y2I p f r k l (i + 1) (f s a)
theorem y3q {T A S R : Type} {step : (T → Option R) → T → Option R} (mk : Int → S → T) (g : Int → S → A → Except (Option R) S) (k : S → Option R) (da : A) (l : List A) (hl : l.length ≤ 1099511627776) (I : Nat → S → Prop)
  (h : ∀ again i s, 0 ≤ i → i < (l.length : Int) → I i.toNat s → (step again (mk i s) = match g i s (l.getD i.toNat da) with
   | .error r => r
   | .ok s' => again (mk (i + 1) s')) ∧ ∀ s', g i s (l.getD i.toNat da) = .ok s' → I (i.toNat + 1) s')
  (hd : ∀ again i s, ¬ i < (l.length : Int) → step again (mk i s) = k s) (i0 : Int) (h00 : 0 ≤ i0) (s : S) (hs : I i0.toNat s) : zE step zW (mk i0 s) = y7Y g k (l.drop i0.toNat) i0 s := by
 have key : ∀ (n : Nat) (i : Int) (s : S), 0 ≤ i → I i.toNat s → l.length - i.toNat < n → zE step n (mk i s) = y7Y g k (l.drop i.toNat) i s := by
  intro n
  induction n with
  | zero => intro i s _ _ hn; omega
  | succ n ih =>
   intro i s h0 hI hn
   rw [zE]
   by_cases hi : i < (l.length : Int)
   ·obtain ⟨e, hI'⟩ := h (zE step n) i s h0 hi hI
    have e1 : (i + 1).toNat = i.toNat + 1 := by omega
    rw [e, w8 da l i h0 hi, y7Y]
    cases hg : g i s (l.getD i.toNat da) with
    | error r => rfl
    | ok s' => exact ih (i + 1) s' (by omega) (by rw [e1]; exact hI' s' hg) (by omega)
   ·rw [hd _ i s hi, List.drop_of_length_le (by omega)]
    rfl
 exact key zW i0 s h00 hs (by rw [y0e]; omega)
theorem y2J {T A S R : Type} {step : (T → Option R) → T → Option R} (mk : Int → S → T) (p : Int → A → Bool) (f : S → A → S) (r : Option R) (k : S → Option R) (da : A) (l : List A) (hl : l.length ≤ 1099511627776)
  (h : ∀ again i s, 0 ≤ i → i < (l.length : Int) → step again (mk i s) = if p i (l.getD i.toNat da) = true then r else again (mk (i + 1) (f s (l.getD i.toNat da))))
  (hd : ∀ again i s, ¬ i < (l.length : Int) → step again (mk i s) = k s) (s : S) : zE step zW (mk 0 s) = if Yh p l 0 = true then r else k (l.foldl f s) := by
 rw [← y2I p f r k l 0 s]
 have := y3q (step := step) mk (fun i s a => if p i a = true then .error r else .ok (f s a)) k da l hl (fun _ _ => True) (fun again i s h0 h1 _ => ⟨?_, fun _ _ => trivial⟩) hd 0 (Int.le_refl _) s trivial
 ·simpa using this
 ·rw [h again i s h0 h1]
  by_cases hp : p i (l.getD i.toNat da) = true
  ·rw [if_pos hp, if_pos hp]
  ·rw [if_neg hp, if_neg hp]
theorem zK {T A R : Type} {step : (T → Option R) → T → Option R} (mk : Int → T) (p : Int → A → Bool) (r k : Option R) (da : A) (l : List A) (hl : l.length ≤ 1099511627776)
  (h : ∀ again i, 0 ≤ i → i < (l.length : Int) → step again (mk i) = if p i (l.getD i.toNat da) = true then r else again (mk (i + 1)))
  (hd : ∀ again i, ¬ i < (l.length : Int) → step again (mk i) = k) : zE step zW (mk 0) = if Yh p l 0 = true then r else k :=
 y2J (fun i (_ : Unit) => mk i) p (fun _ _ => ()) r (fun _ => k) da l hl (fun again i _ h0 h1 => h again i h0 h1) (fun again i _ hi => hd again i hi) ()
end Go.Proofs.YthgdjjdigalckaaGreat.Pl
namespace Go.Proofs.YthgdjjdigalckaaGreat.Pl
open Go.Proofs.YthgdjjdigalckaaGreat.R Go.Proofs.YthgdjjdigalckaaGreat.XT
def y3r (blk : Int) (s : List ya) (a : ya) : List ya := if a.1 == blk then s ++ [a] else s
def y1I (ks : List ya) (blk : Int) : List ya := ks.foldl (y3r blk) []
theorem y4S (blk : Int) (s : List ya) (a : ya) : (y3r blk s a).length ≤ s.length + 1 := by
 unfold y3r
 split <;> simp
theorem y82 (blk : Int) : ∀ (l s : List ya), (l.foldl (y3r blk) s).length ≤ s.length + l.length
 | [], s => by simp
 | c :: l, s => by
  have h := y82 blk l (y3r blk s c)
  have h2 := y4S blk s c
  simp only [List.foldl_cons, List.length_cons]
  omega
theorem y83 : ∀ (t : List y0) (s : List ya), ((t.foldl Kb s).length : Int) ≤ s.length + wK qB t
 | [], s => by simp [wK]
 | n :: t, s => by
  have h := y83 t (Kb s n)
  have h1 := vk n
  have h2 := y0N n
  have h3 : (Kb s n).length = s.length + (yZ n).length := List.length_append
  simp only [List.foldl_cons, Y0]
  omega
theorem y84 (t : List y0) : ((z4 t).length : Int) ≤ wK qB t := by
 have := y83 t []
 simpa [z4] using this
structure TOk (t : List y0) : Prop where
 len : t.length ≤ 1048576
 nodes : ∀ n ∈ t, List.length n ≤ 1073741824
 sum : wK qB t ≤ 1048576
theorem TOk.keys {t : List y0} (h : TOk t) : (z4 t).length ≤ 1048576 := by
 have h1 := y84 t
 have h2 := h.sum
 omega
theorem y46 (q : List Int) (t : List y0) (blk : Int) (ht : TOk t) : W6 (q, t, blk) = some (y1I (z4 t) blk) := by
 unfold W6 Q1
 have hk := ht.keys
 have e : yG (q, t) = some (z4 t) := zY q t (by have := ht.len; omega) ht.nodes ht.sum
 simp only [e, Option.bind_some]
 generalize z4 t = ks at hk
 refine Ye (step := jO _) (fun (i : Int) (s : List ya) => (blk, i, s, ks)) (fun s => some s) yL (y3r blk) ks (by omega) (fun i s => s.length ≤ i) ?_ ?_ [] (by simp)
 ·intro again i s h0 h1 hI
  have hw : Go.IntKind.wrap .i64 (i + 1) = i + 1 := w64 (by omega) (by omega)
  have hs := y4S blk s (ks.getD i.toNat yL)
  refine ⟨?_, by omega⟩
  have c1 : (s.length + 1) * 40 < 140737488355328 := by omega
  clear hs
  unfold jO y3r
  obtain ⟨⟨x1, x2, x3, x4, x5⟩, hx⟩ : ∃ x, y8 ks i = x := ⟨_, rfl⟩
  have hx' : ks.getD i.toNat yL = (x1, x2, x3, x4, x5) := hx
  rw [hx']
  simp only [Bool.cond_eq_ite, decide_eq_true_eq, h0, h1, if_true, hw, hx, List.length_cons, List.length_nil, Nat.zero_add, c1]
  by_cases h3 : (x1 == blk) = true
  ·rw [if_pos h3, if_pos h3]
  ·rw [if_neg h3, if_neg h3]
 ·intro again i s hi
  unfold jO
  simp only [Bool.cond_eq_ite, decide_eq_true_eq, if_neg hi]
def y3s (path : List Int) (s : Bool × ya) (a : ya) : Bool × ya := if yrQ path a.2.1 = true ∧ (s.1 = false ∨ s.2.2.1 < a.2.1) then (true, a) else s
def y1j (ks : List ya) (path : List Int) : Bool × ya := ks.foldl (y3s path) (false, (0, 0, 0, 0, 0))
def ans (r : Bool × ya) : Int × Int × Int × Int × Int × Bool := (r.2.1, r.2.2.1, r.2.2.2.1, r.2.2.2.2.1, r.2.2.2.2.2, r.1)
theorem y1J (q : List Int) (t : List y0) (blk : Int) (path : List Int) (ht : TOk t) (hp : path.length ≤ 1073741824) : ZP (q, t, blk, path) = some (ans (y1j (y1I (z4 t) blk) path)) := by
 unfold ZP Q2
 have hk : (y1I (z4 t) blk).length ≤ 1048576 := by
  have h1 := y82 blk (z4 t) []
  have h2 := ht.keys
  unfold y1I
  simp only [List.length_nil] at h1
  omega
 simp only [y46 q t blk ht, Option.bind_some]
 generalize y1I (z4 t) blk = ks at hk
 refine (Ye (step := jP _) (fun (i : Int) (s : Bool × ya) => (path, s.1, i, 0, 0, 0, 0, 0, s.2.1, s.2.2.1, s.2.2.2.1, s.2.2.2.2.1, s.2.2.2.2.2, ks)) (fun s => some (ans s)) yL (y3s path) ks (by omega) (fun _ _ => True) ?_ ?_ (false, (0, 0, 0, 0, 0)) trivial)
 ·rintro again i ⟨f, b1, b2, b3, b4, b5⟩ h0 h1 _
  have hw : Go.IntKind.wrap .i64 (i + 1) = i + 1 := w64 (by omega) (by omega)
  refine ⟨?_, trivial⟩
  unfold jP y3s
  obtain ⟨⟨x1, x2, x3, x4, x5⟩, hx⟩ : ∃ x, y8 ks i = x := ⟨_, rfl⟩
  have hx' : ks.getD i.toNat yL = (x1, x2, x3, x4, x5) := hx
  rw [hx']
  have e := y9z path x2 hp
  simp only [Bool.cond_eq_ite, decide_eq_true_eq, h0, h1, if_true, hw, hx, e, Option.bind_some]
  cases yrQ path x2 <;> cases f <;> by_cases hb : b2 < x2 <;> simp [hb]
 ·rintro again i ⟨f, b1, b2, b3, b4, b5⟩ hi
  unfold jP
  simp only [Bool.cond_eq_ite, decide_eq_true_eq, if_neg hi]
  rfl
def yfp (t : List y0) (l : List yd) (blk id : Int) : Bool × ya := y1j (y1I (z4 t) blk) (y3p l id)
theorem y4T (l : List yd) (id : Int) (hl : l.length ≤ 1048576) : (y3p l id).length ≤ 1073741824 := by
 have := y81 l (l.length + 1) (Yp l id)
 unfold y3p
 omega
theorem y85 (q : List Int) (t : List y0) (l : List yd) (blk id : Int) (ht : TOk t) (hl : l.length ≤ 1048576) : KT (q, t, l, blk, id) = some (ans (yfp t l blk id)) := by
 unfold KT
 simp only [y03 l id hl, y1J q t blk _ ht (y4T l id hl), Option.bind_some]
 rfl
def yfq (t : List y0) (l : List yd) (k : ya) (id : Int) : Bool := (yfp t l k.1 id).1 && ((yfp t l k.1 id).2.2.1 == k.2.1)
theorem y86 (q : List Int) (t : List y0) (l : List yd) (k1 k2 k3 k4 k5 id : Int) (ht : TOk t) (hl : l.length ≤ 1048576) : KU (q, t, l, k1, k2, k3, k4, k5, id) = some (yfq t l (k1, k2, k3, k4, k5) id) := by
 unfold KU yfq
 simp only [y85 q t l k1 id ht hl, Option.bind_some, ans]
 cases (yfp t l k1 id).1 <;> rfl
def y6V (t : List y0) (l : List yd) (k : ya) (v : ym) : Bool := decide (v.2.2.1 > k.1) && yfq t l k v.2.1
def y9B (t : List y0) (l : List yd) (vs : List ym) (k : ya) : Bool := decide (0 ≤ Y7 (y6V t l k) vs 0)
theorem y1k (q : List Int) (t : List y0) (l : List yd) (cs : List y9) (vs : List ym) (z k1 k2 k3 k4 k5 : Int) (ht : TOk t) (hl : l.length ≤ 1048576) (hv : vs.length ≤ 1048576) : j8 (q, t, l, cs, vs, z, k1, k2, k3, k4, k5) = some (y9B t l vs (k1, k2, k3, k4, k5)) := by
 unfold j8 vJ
 refine (ZD (step := YV _ _) (fun i => (i, q, t, l, cs, vs, z, k1, k2, k3, k4, k5)) (y6V t l (k1, k2, k3, k4, k5)) (fun _ => some true) (some false) WM vs (by omega) ?_ ?_).trans ?_
 ·intro again i h0 h1
  have hw : Go.IntKind.wrap .i64 (i + 1) = i + 1 := w64 (by omega) (by omega)
  unfold YV y6V
  obtain ⟨⟨x1, x2, x3, x4⟩, hx⟩ : ∃ x, yq vs i = x := ⟨_, rfl⟩
  have hx' : vs.getD i.toNat WM = (x1, x2, x3, x4) := hx
  rw [hx']
  have e := y86 q t l k1 k2 k3 k4 k5 x2 ht hl
  simp only [Bool.cond_eq_ite, decide_eq_true_eq, h0, h1, if_true, hw, hx, e, Option.bind_some]
  by_cases hb : x3 > k1 <;> cases yfq t l (k1, k2, k3, k4, k5) x2 <;> simp [hb]
 ·intro again i hi
  unfold YV
  simp only [Bool.cond_eq_ite, decide_eq_true_eq, if_neg hi]
 ·unfold y9B
  by_cases h : Y7 (y6V t l (k1, k2, k3, k4, k5)) vs 0 < 0
  ·rw [if_pos h, decide_eq_false (by omega)]
  ·rw [if_neg h, decide_eq_true (by omega)]
end Go.Proofs.YthgdjjdigalckaaGreat.Pl
namespace Go.Proofs.YthgdjjdigalckaaGreat.Pl
open Go.Proofs.YthgdjjdigalckaaGreat.R Go.Proofs.YthgdjjdigalckaaGreat.XT
def JD (k : ya) : Bool := inR k.1 0 15 && (inR k.2.1 1 60 && (inR k.2.2.1 0 2 && (if k.2.2.1 = 1 then inR k.2.2.2.1 0 23 && inR k.2.2.2.2 0 999 else (k.2.2.2.1 == 0) && (k.2.2.2.2 == 0))))
theorem y0O (a b c d e : Int) : wF (a, b, c, d, e) = some (JD (a, b, c, d, e)) := by
 unfold wF JD
 simp only [Yr, Option.bind_some]
 by_cases hc : c = 1
 ·subst hc
  cases inR a 0 15 <;> cases inR b 1 60 <;> cases inR 1 0 2 <;> cases inR d 0 23 <;> rfl
 ·have hc' : (c == 1) = false := by simpa using hc
  rw [hc', if_neg hc]
  cases inR a 0 15 <;> cases inR b 1 60 <;> cases inR c 0 2 <;> cases (d == 0) <;> rfl
theorem y0P (a b c d e : Int) : wJ (a, b, c, d, e) = some (JD (a, b, c, d, e)) := by
 unfold wJ JD
 simp only [Z6, Option.bind_some]
 by_cases hc : c = 1
 ·subst hc
  cases inR a 0 15 <;> cases inR b 1 60 <;> cases inR 1 0 2 <;> cases inR d 0 23 <;> rfl
 ·have hc' : (c != 1) = true := by simpa using hc
  rw [hc', if_neg hc]
  cases inR a 0 15 <;> cases inR b 1 60 <;> cases inR c 0 2 <;> cases (d == 0) <;> rfl
def wz (l : List ya) (i : Int) (a : ya) : Bool := decide (0 < i) && !VS (l.getD (i - 1).toNat yL) a
def qw (l : List ya) : Bool := !Yh (fun _ a => !JD a) l 0 && (!Yh (wz l) l 0 && decide ((l.length : Int) ≤ 60))
theorem y6W (l : List ya) (hl : l.length ≤ 1073741824) : JH l = some (!Yh (wz l) l 0) := by
 unfold JH qf
 have key := y3q (step := ZU (fun x2 => some x2) (fun x3 => some true)) (fun i (_ : Unit) => (l, i)) (fun i (s : Unit) a => if (decide (0 < i) && !VS (l.getD (i - 1).toNat yL) a) = true ∨ i = 0 then .error (some false) else .ok s) (fun _ => some true) yL l (by omega) (fun i _ => 1 ≤ i) ?_ ?_ 1 (by omega) () (by decide)
 ·rw [key]
  have h1 : Yh (wz l) l 0 = Yh (wz l) (l.drop 1) 1 := by
   cases l with
   | nil => rfl
   | cons a l => simp [Yh, wz]
  rw [h1]
  have h2 := y2I (fun i a => decide ((decide (0 < i) && !VS (l.getD (i - 1).toNat yL) a) = true ∨ i = 0)) (fun (s : Unit) _ => s) (some false) (fun _ => some true) (l.drop 1) 1 ()
  simp only [decide_eq_true_eq] at h2
  rw [show (1 : Int).toNat = 1 from rfl, h2]
  have h3 : Yh (fun i a => decide ((decide (0 < i) && !VS (l.getD (i - 1).toNat yL) a) = true ∨ i = 0)) (l.drop 1) 1 = Yh (wz l) (l.drop 1) 1 := y4R _ _ fun j a hj => by
   unfold wz
   have : ¬ j = 0 := by omega
   simp [this]
  rw [h3]
  cases Yh (wz l) (l.drop 1) 1 <;> rfl
 ·intro again i s h0 h1 hI
  have hi : 1 ≤ i := by
   have : (1 : Nat) ≤ i.toNat := hI
   omega
  have hw : Go.IntKind.wrap .i64 (i + 1) = i + 1 := w64 (by omega) (by omega)
  have hm : Go.IntKind.wrap .i64 (i - 1) = i - 1 := w64 (by omega) (by omega)
  refine ⟨?_, fun _ _ => by omega⟩
  unfold ZU
  obtain ⟨⟨x1, x2, x3, x4, x5⟩, hx⟩ : ∃ x, y8 l i = x := ⟨_, rfl⟩
  have hx' : l.getD i.toNat yL = (x1, x2, x3, x4, x5) := hx
  obtain ⟨⟨y1, y2, y3, y4, y5⟩, hy⟩ : ∃ y, y8 l (i - 1) = y := ⟨_, rfl⟩
  have hy' : l.getD (i - 1).toNat yL = (y1, y2, y3, y4, y5) := hy
  rw [hx', hy']
  have h3 : 0 ≤ i - 1 := by omega
  have h4 : i - 1 < (l.length : Int) := by omega
  have h5 : 0 < i := by omega
  have h6 : ¬ i = 0 := by omega
  simp only [Bool.cond_eq_ite, decide_eq_true_eq, h0, h1, if_true, hw, hm, hx, hy, h3, h4, h5, h6, Ql, Option.bind_some, decide_true, Bool.true_and, or_false]
  cases VS (y1, y2, y3, y4, y5) (x1, x2, x3, x4, x5) <;> rfl
 ·intro again i s hi
  unfold ZU
  simp only [Bool.cond_eq_ite, decide_eq_true_eq, if_neg hi]
theorem y6X (l : List ya) (hl : l.length ≤ 1073741824) : kN l = some (qw l) := by
 unfold kN QW qw
 refine (zK (step := JI _ _) (fun i => (l, i)) (fun _ a => !JD a) (some false) (some (!Yh (wz l) l 0 && decide ((l.length : Int) ≤ 60))) yL l (by omega) ?_ ?_).trans ?_
 ·intro again i h0 h1
  have hw : Go.IntKind.wrap .i64 (i + 1) = i + 1 := w64 (by omega) (by omega)
  unfold JI
  obtain ⟨⟨x1, x2, x3, x4, x5⟩, hx⟩ : ∃ x, y8 l i = x := ⟨_, rfl⟩
  have hx' : l.getD i.toNat yL = (x1, x2, x3, x4, x5) := hx
  rw [hx']
  simp only [Bool.cond_eq_ite, decide_eq_true_eq, h0, h1, if_true, hw, hx, y0O, Option.bind_some]
 ·intro again i hi
  unfold JI
  simp only [Bool.cond_eq_ite, decide_eq_true_eq, if_neg hi, y6W l hl, Option.bind_some]
  cases Yh (wz l) l 0 <;> rfl
 ·cases Yh (fun _ a => !JD a) l 0 <;> rfl
theorem y6Y (l : List ya) (hl : l.length ≤ 1073741824) : kV l = some (qw l) := by
 unfold kV y01 qw
 refine (zK (step := JS _ _) (fun i => (l, l, (l.length : Int), i)) (fun i a => !JD a || wz l i a) (some false) (some (decide ((l.length : Int) ≤ 60))) yL l (by omega) ?_ ?_).trans ?_
 ·intro again i h0 h1
  have hw : Go.IntKind.wrap .i64 (i + 1) = i + 1 := w64 (by omega) (by omega)
  have hm : Go.IntKind.wrap .i64 (i - 1) = i - 1 := w64 (by omega) (by omega)
  unfold JS wz
  obtain ⟨⟨x1, x2, x3, x4, x5⟩, hx⟩ : ∃ x, y8 l i = x := ⟨_, rfl⟩
  have hx' : l.getD i.toNat yL = (x1, x2, x3, x4, x5) := hx
  obtain ⟨⟨y1, y2, y3, y4, y5⟩, hy⟩ : ∃ y, y8 l (i - 1) = y := ⟨_, rfl⟩
  have hy' : l.getD (i - 1).toNat yL = (y1, y2, y3, y4, y5) := hy
  rw [hx', hy']
  simp only [Bool.cond_eq_ite, decide_eq_true_eq, h0, h1, if_true, hw, hm, hx, hy, y0P, Qm, Option.bind_some]
  cases JD (x1, x2, x3, x4, x5)
  ·rfl
  ·by_cases h5 : 0 < i
   ·have h3 : 0 ≤ i - 1 := by omega
    have h4 : i - 1 < (l.length : Int) := by omega
    simp only [gt_iff_lt, h5, h3, h4, if_true, decide_true]
    cases VS (y1, y2, y3, y4, y5) (x1, x2, x3, x4, x5) <;> rfl
   ·simp [h5]
 ·intro again i hi
  unfold JS
  simp only [Bool.cond_eq_ite, decide_eq_true_eq, if_neg hi]
 ·rw [y9A]
  cases Yh (fun _ a => !JD a) l 0 <;> cases Yh (wz l) l 0 <;> rfl
def y0Q (_ : Int) (a : yb) : Bool := !qw a || ((List.length a : Int) == 0)
def y04 (s : Int) (a : yb) : Int := Go.IntKind.wrap .i64 (s + (List.length a : Int))
def Yk (n : List yb) : Bool := !Yh y0Q n 0 && (decide ((n.length : Int) ≤ 3) && decide (n.foldl y04 0 ≤ 8))
theorem y6Z (n : List yb) (hn : n.length ≤ 1073741824) : JJ n = some (n.foldl y04 0) := by
 unfold JJ qg
 refine Ye (step := ZV _) (fun (i s : Int) => (s, i, n)) (fun s => some s) z6 y04 n (by omega) (fun _ _ => True) ?_ ?_ 0 trivial
 ·intro again i s h0 h1 _
  have hw : Go.IntKind.wrap .i64 (i + 1) = i + 1 := w64 (by omega) (by omega)
  refine ⟨?_, trivial⟩
  unfold ZV
  simp only [Bool.cond_eq_ite, decide_eq_true_eq, h0, h1, if_true, hw]
  rfl
 ·intro again i s hi
  unfold ZV
  simp only [Bool.cond_eq_ite, decide_eq_true_eq, if_neg hi]
theorem V1 (n : List yb) (hn : n.length ≤ 1073741824) (hm : ∀ s ∈ n, List.length s ≤ 1073741824) : zl n = some (Yk n) := by
 unfold zl qQ Yk
 refine (zK (step := jG _ _) (fun i => (i, n)) y0Q (some false) (some (decide ((n.length : Int) ≤ 3) && decide (n.foldl y04 0 ≤ 8))) z6 n (by omega) ?_ ?_).trans ?_
 ·intro again i h0 h1
  have hw : Go.IntKind.wrap .i64 (i + 1) = i + 1 := w64 (by omega) (by omega)
  have e := y6X (yp n i) (hm _ (zi z6 n i h0 h1))
  unfold jG y0Q
  have hx : n.getD i.toNat z6 = yp n i := rfl
  rw [hx]
  simp only [Bool.cond_eq_ite, decide_eq_true_eq, h0, h1, if_true, hw, e, Option.bind_some]
  cases qw (yp n i)
  ·rfl
  ·rfl
 ·intro again i hi
  unfold jG
  simp only [Bool.cond_eq_ite, decide_eq_true_eq, if_neg hi, y6Z n hn, Option.bind_some]
  by_cases h3 : (n.length : Int) ≤ 3 <;> simp [h3]
 ·cases Yh y0Q n 0 <;> rfl
theorem V2 (n : List yb) (hn : n.length ≤ 1073741824) (hm : ∀ s ∈ n, List.length s ≤ 1073741824) : zy n = some (Yk n) := by
 unfold zy Qb Yk
 refine (y2J (step := jW _ _) (fun (i s : Int) => (s, n, (n.length : Int), i, n)) y0Q y04 (some false) (fun s => some (decide ((n.length : Int) ≤ 3) && decide (s ≤ 8))) z6 n (by omega) ?_ ?_ 0).trans ?_
 ·intro again i s h0 h1
  have hw : Go.IntKind.wrap .i64 (i + 1) = i + 1 := w64 (by omega) (by omega)
  have e := y6Y (yp n i) (hm _ (zi z6 n i h0 h1))
  unfold jW y0Q y04
  have hx : n.getD i.toNat z6 = yp n i := rfl
  rw [hx]
  simp only [Bool.cond_eq_ite, decide_eq_true_eq, h0, h1, if_true, hw, e, Option.bind_some]
  cases qw (yp n i)
  ·rfl
  ·rfl
 ·intro again i s hi
  unfold jW
  simp only [Bool.cond_eq_ite, decide_eq_true_eq, if_neg hi]
  by_cases h3 : (n.length : Int) ≤ 3 <;> simp [h3]
 ·cases Yh y0Q n 0 <;> rfl
end Go.Proofs.YthgdjjdigalckaaGreat.Pl
namespace Go.Proofs.YthgdjjdigalckaaGreat.Pl
open Go.Proofs.YthgdjjdigalckaaGreat.R Go.Proofs.YthgdjjdigalckaaGreat.XT
def small (is : List yf) (ns : List y0) (ags : List yd) (cs : List y9) (vs : List ym) : Prop :=
 is.length ≤ 1048576 ∧ ns.length ≤ 1048576 ∧ wK qB ns ≤ 1048576 ∧ ags.length ≤ 1048576 ∧ cs.length ≤ 1048576 ∧ vs.length ≤ 1048576
theorem wN {ns : List y0} (h : wK qB ns ≤ 1048576) {n : List yb} (hn : n ∈ ns) : n.length ≤ 1048576 ∧ ∀ s ∈ n, List.length s ≤ 1048576 := by
 have h1 := (QH kX hn).1
 have h2 := wy kp n
 have h3 : qB n = (List.length n : Int) + wK vv n := rfl
 refine ⟨by omega, fun s hs => ?_⟩
 have h4 := (QH kp hs).1
 have h5 : vv s = (List.length s : Int) := rfl
 omega
end Go.Proofs.YthgdjjdigalckaaGreat.Pl
namespace Go.Proofs.YthgdjjdigalckaaGreat.Pl
open Go.Proofs.YthgdjjdigalckaaGreat.R Go.Proofs.YthgdjjdigalckaaGreat.XT
def y9C (a : ya) : Int := Go.IntKind.wrap .i64 (Go.IntKind.wrap .i64 ((64 : Int) * a.1) + a.2.1)
def yku (q : List Int) (i : Int) (_ : Int) (a : ya) : Bool := decide (y9C a < q.getD i.toNat 0) || (decide (i + 1 < (q.length : Int)) && decide (y9C a ≥ q.getD (i + 1).toNat 0))
theorem TOk.node {t : List y0} (h : TOk t) {n : List yb} (hn : n ∈ t) : n.length ≤ 1048576 ∧ ∀ s ∈ n, List.length s ≤ 1048576 := wN h.sum hn
theorem TOk.sumK {t : List y0} (h : TOk t) {n : List yb} (hn : n ∈ t) : wK vv n ≤ 1048576 := by
 have h1 := (QH kX hn).1
 have h2 := y0N n
 have h3 := h.sum
 omega
theorem ybD {R : Type} (k0 : (Int × Bool × Int × List yf × List y0 × List yb) → Option R) (k1 : (Int × Int × List yf × List y0 × List yb) → Option R) (i k : Int) (q : List Int) (t : List y0) (n : List yb) (hk0 : 0 ≤ k) (hk : k < (n.length : Int)) (hi0 : 0 ≤ i) (hi : i < (q.length : Int)) (hq : q.length ≤ 1048576) (hs : List.length (yp n k) ≤ 1048576) :
  KE k0 k1 (i, k, 0, q, t, n) = if Yh (yku q i) (yp n k) 0 = true then k0 (i, false, k, q, t, n) else k1 (i, k, q, t, n) := by
 unfold KE
 refine zK (step := jH k0 k1) (fun j => (i, k, j, q, t, n)) (yku q i) _ _ yL (yp n k) (by omega) ?_ ?_
 ·intro again j h0 h1
  have hw : Go.IntKind.wrap .i64 (j + 1) = j + 1 := w64 (by omega) (by omega)
  have hwi : Go.IntKind.wrap .i64 (i + 1) = i + 1 := w64 (by omega) (by omega)
  unfold jH yku Jk Jj y9C
  obtain ⟨⟨x1, x2, x3, x4, x5⟩, hx⟩ : ∃ x, y8 (yp n k) j = x := ⟨_, rfl⟩
  have hx' : (yp n k).getD j.toNat yL = (x1, x2, x3, x4, x5) := hx
  have e1 : q.getD i.toNat 0 = zC q i := rfl
  have e2 : q.getD (i + 1).toNat 0 = zC q (i + 1) := rfl
  rw [hx', e1, e2]
  have hi1 : 0 ≤ i + 1 := by omega
  simp only [Bool.cond_eq_ite, decide_eq_true_eq, h0, h1, hk0, hk, hi0, hi, hi1, if_true, hw, hwi, hx, Option.bind_some]
  by_cases h2 : Go.IntKind.wrap .i64 (Go.IntKind.wrap .i64 ((64 : Int) * x1) + x2) < zC q i
  ·simp [h2]
  ·by_cases h3 : i + 1 < (q.length : Int)
   ·simp [h2, h3]
   ·simp [h2, h3]
 ·intro again j hj
  unfold jH
  simp only [Bool.cond_eq_ite, decide_eq_true_eq, hk0, hk, if_true, if_neg hj]
def ydh (q : List Int) (i : Int) (_ : Int) (s : yb) : Bool := Yh (yku q i) s 0
def ydi (n : y0) : Bool := ((yZ n).length : Int) == 0
def y9D (q : List Int) (i : Int) (n : y0) : Bool := Yk n && (!(decide (0 < i) && ydi n) && !Yh (ydh q i) n 0)
theorem y47 (q : List Int) (t : List y0) (i : Int) (ht : TOk t) (hi0 : 0 ≤ i) (hi : i < (t.length : Int)) (hq : q.length = t.length) : wV (q, t, i) = some (y9D q i (yg t i)) := by
 have hmem : yg t i ∈ t := zi yB t i hi0 hi
 obtain ⟨hn, hs⟩ := ht.node hmem
 have hlen := ht.len
 have hq1 : i < (q.length : Int) := by omega
 have hq2 : q.length ≤ 1048576 := by omega
 have e1 := V1 (yg t i) (by omega) (fun s hh => by have := hs s hh; omega)
 have e2 : yA (yg t i) = some (yZ (yg t i)) := YO _ (by omega) (ht.sumK hmem)
 unfold wV y9D ydi
 simp only [hi0, hi, if_true, e1, Option.bind_some]
 generalize yg t i = n at *
 cases Yk n
 ·rfl
 ·have key : KG (fun x10 => some x10) (fun x11 => some true) (i, 0, q, t, n) = some (!Yh (ydh q i) n 0) := by
   unfold KG
   refine (zK (step := jI _ _) (fun k => (i, k, q, t, n)) (ydh q i) (some false) (some true) z6 n (by omega) ?_ ?_).trans ?_
   ·intro again k h0 h1
    have hw : Go.IntKind.wrap .i64 (k + 1) = k + 1 := w64 (by omega) (by omega)
    have hsk : List.length (yp n k) ≤ 1048576 := hs _ (zi z6 n k h0 h1)
    unfold jI ydh
    have hx : n.getD k.toNat z6 = yp n k := rfl
    rw [hx]
    simp only [Bool.cond_eq_ite, decide_eq_true_eq, h1, if_true, ybD _ _ i k q t n h0 h1 hi0 hq1 hq2 hsk, hw]
   ·intro again k hk
    unfold jI
    simp only [Bool.cond_eq_ite, decide_eq_true_eq, if_neg hk]
   ·cases Yh (ydh q i) n 0 <;> rfl
  simp only [key, e2, Option.bind_some, Bool.not_true, cond_false, gt_iff_lt]
  by_cases h0 : 0 < i
  ·simp only [h0, decide_true, cond_true, Bool.true_and]
   cases (((yZ n).length : Int) == 0) <;> rfl
  ·simp only [h0, decide_false, cond_false, Bool.false_and]
   rfl
theorem ybE {R : Type} (k0 : (Int × Bool × List yb × Int × Int × List yf × List y0) → Option R) (k1 : (Int × List yb × Int × Int × List yf × List y0) → Option R) (i k m : Int) (q : List Int) (t : List y0) (n : List yb) (s : List ya) (hi0 : 0 ≤ i) (hi : i < (q.length : Int)) (hq : q.length ≤ 1048576) (hs : s.length ≤ 1048576) :
  kb k0 k1 (i, n, m, k, s, (s.length : Int), 0, q, t) = if Yh (yku q i) s 0 = true then k0 (i, false, n, m, k, q, t) else k1 (i, n, m, k, q, t) := by
 unfold kb
 refine zK (step := Zq k0 k1) (fun j => (i, n, m, k, s, (s.length : Int), j, q, t)) (yku q i) _ _ yL s (by omega) ?_ ?_
 ·intro again j h0 h1
  have hw : Go.IntKind.wrap .i64 (j + 1) = j + 1 := w64 (by omega) (by omega)
  have hwi : Go.IntKind.wrap .i64 (i + 1) = i + 1 := w64 (by omega) (by omega)
  unfold Zq yku YZ y9C
  obtain ⟨⟨x1, x2, x3, x4, x5⟩, hx⟩ : ∃ x, y8 s j = x := ⟨_, rfl⟩
  have hx' : s.getD j.toNat yL = (x1, x2, x3, x4, x5) := hx
  have e1 : q.getD i.toNat 0 = zC q i := rfl
  have e2 : q.getD (i + 1).toNat 0 = zC q (i + 1) := rfl
  rw [hx', e1, e2]
  have hi1 : 0 ≤ i + 1 := by omega
  simp only [Bool.cond_eq_ite, decide_eq_true_eq, h0, h1, hi0, hi, hi1, if_true, hw, hwi, hx, Option.bind_some]
  by_cases h2 : Go.IntKind.wrap .i64 (Go.IntKind.wrap .i64 ((64 : Int) * x1) + x2) < zC q i
  ·simp [h2]
  ·by_cases h3 : i + 1 < (q.length : Int)
   ·simp [h2, h3]
   ·simp [h2, h3]
 ·intro again j hj
  unfold Zq
  simp only [Bool.cond_eq_ite, decide_eq_true_eq, if_neg hj]
theorem y20 (q : List Int) (t : List y0) (i : Int) (ht : TOk t) (hi0 : 0 ≤ i) (hi : i < (t.length : Int)) (hq : q.length = t.length) : jX (q, t, i) = some (!Yh (ydh q i) (yg t i) 0) := by
 have hmem : yg t i ∈ t := zi yB t i hi0 hi
 obtain ⟨hn, hs⟩ := ht.node hmem
 have hlen := ht.len
 have hq1 : i < (q.length : Int) := by omega
 have hq2 : q.length ≤ 1048576 := by omega
 unfold jX Vl
 simp only [hi0, hi, if_true]
 generalize yg t i = n at *
 refine (zK (step := Zr _ _) (fun k => (i, n, (n.length : Int), k, q, t)) (ydh q i) (some false) (some true) z6 n (by omega) ?_ ?_).trans ?_
 ·intro again k h0 h1
  have hw : Go.IntKind.wrap .i64 (k + 1) = k + 1 := w64 (by omega) (by omega)
  have hsk : List.length (yp n k) ≤ 1048576 := hs _ (zi z6 n k h0 h1)
  unfold Zr ydh
  have hx : n.getD k.toNat z6 = yp n k := rfl
  rw [hx]
  simp only [Bool.cond_eq_ite, decide_eq_true_eq, h0, h1, if_true, ybE _ _ i k (n.length : Int) q t n _ hi0 hq1 hq2 hsk, hw]
 ·intro again k hk
  unfold Zr
  simp only [Bool.cond_eq_ite, decide_eq_true_eq, if_neg hk]
 ·cases Yh (ydh q i) n 0 <;> rfl
def ykv (q : List Int) (i : Int) : Bool := decide (0 < i) && decide (q.getD (i - 1).toNat 0 ≥ q.getD i.toNat 0)
def Qo (q : List Int) (i : Int) (n : y0) : Bool := ykv q i || !y9D q i n
def y3t (s : Int) (n : y0) : Int := Go.IntKind.wrap .i64 (s + ((yZ n).length : Int))
def Ys (q : List Int) (t : List y0) : Bool :=
 inR (t.length : Int) 1 20 && (decide (q.length = t.length) && ((q.getD 0 0 == 0) && (!Yh (Qo q) t 0 && decide (((z4 t).length : Int) ≤ 60))))
theorem ydj : ∀ (t : List y0) (s : List ya), (s.length : Int) + wK qB t ≤ 1048576 → t.foldl y3t (s.length : Int) = ((t.foldl Kb s).length : Int)
 | [], _, _ => rfl
 | n :: t, s, h => by
  rw [Y0] at h
  have h1 := vk n
  have h2 := y0N n
  have h3 := wy kX t
  have h4 : (Kb s n).length = s.length + (yZ n).length := List.length_append
  rw [List.foldl_cons, List.foldl_cons, show y3t (s.length : Int) n = ((Kb s n).length : Int) by
   unfold y3t
   rw [h4, w64 (by omega) (by omega)]
   omega]
  exact ydj t (Kb s n) (by rw [h4]; omega)
theorem V3 (q : List Int) (t : List y0) (ht : TOk t) : Y9 (q, t) = some (Ys q t) := by
 have hlen := ht.len
 unfold Y9 Ys
 simp only [Yr, Option.bind_some]
 cases h1 : inR (t.length : Int) 1 20
 ·rfl
 by_cases hq : q.length = t.length
 ·have hq' : ((q.length : Int) != (t.length : Int)) = false := by simp [hq]
  have hpos : 0 < (q.length : Int) := by
   have := (zZ.1 h1).1
   omega
  have hd : decide (q.length = t.length) = true := by simp [hq]
  simp only [hq', hd, Bool.not_true, cond_false, cond_true, Option.bind_some, Bool.true_and]
  rw [if_pos (Int.le_refl _), if_pos (by omega)]
  have e0 : zC q 0 = q.getD 0 0 := rfl
  rw [e0]
  try simp only [Option.bind_some]
  by_cases hz : q.getD 0 0 = 0
  ·have hz1 : (q.getD 0 0 != 0) = false := by rw [hz]; rfl
   have hz2 : (q.getD 0 0 == 0) = true := by rw [hz]; rfl
   rw [hz1, hz2]
   simp only [cond_false, Bool.true_and]
   unfold qR
   refine (zK (step := jJ _ _) (fun i => (i, q, t)) (Qo q) (some false) (some (decide (((z4 t).length : Int) ≤ 60))) yB t (by omega) ?_ ?_).trans ?_
   ·intro again i h0 h1
    have hw : Go.IntKind.wrap .i64 (i + 1) = i + 1 := w64 (by omega) (by omega)
    have hm : Go.IntKind.wrap .i64 (i - 1) = i - 1 := w64 (by omega) (by omega)
    have e := y47 q t i ht h0 h1 hq
    unfold jJ Qo ykv
    have hx : t.getD i.toNat yB = yg t i := rfl
    have e1 : q.getD i.toNat 0 = zC q i := rfl
    have e2 : q.getD (i - 1).toNat 0 = zC q (i - 1) := rfl
    rw [hx, e1, e2]
    simp only [Bool.cond_eq_ite, decide_eq_true_eq, h0, h1, if_true, hw, hm, e, gt_iff_lt]
    by_cases h5 : 0 < i
    ·rw [if_pos h5, if_pos (by omega), if_pos (by omega), if_pos (by omega)]
     simp only [h5, decide_true, Option.bind_some, Bool.true_and]
     cases decide (zC q (i - 1) ≥ zC q i) <;> cases y9D q i (yg t i) <;> rfl
    ·rw [if_neg h5]
     simp only [h5, decide_false, Option.bind_some, Bool.false_and]
     cases y9D q i (yg t i) <;> rfl
   ·intro again i hi
    have e : yG (q, t) = some (z4 t) := zY q t (by omega) ht.nodes ht.sum
    unfold jJ
    simp only [Bool.cond_eq_ite, decide_eq_true_eq, if_neg hi, e, Option.bind_some]
   ·cases Yh (Qo q) t 0 <;> rfl
  ·have hz1 : (q.getD 0 0 != 0) = true := by simpa using hz
   have hz2 : (q.getD 0 0 == 0) = false := by simpa using hz
   rw [hz1, hz2]
   rfl
 ·have hq' : ((q.length : Int) != (t.length : Int)) = true := by
   simp only [bne_iff_ne, ne_eq]
   omega
  have hd : decide (q.length = t.length) = false := by simp [hq]
  simp only [hq', hd, Bool.not_true, cond_false, cond_true, Option.bind_some, Bool.false_and, Bool.and_false]
theorem V4 (q : List Int) (t : List y0) (ht : TOk t) : Yb (q, t) = some (Ys q t) := by
 have hlen := ht.len
 unfold Yb Ys
 simp only [Z6, Option.bind_some]
 cases h1 : inR (t.length : Int) 1 20
 ·rfl
 by_cases hq : q.length = t.length
 ·have hq' : ((q.length : Int) != (t.length : Int)) = false := by simp [hq]
  have hpos : 0 < (q.length : Int) := by
   have := (zZ.1 h1).1
   omega
  have hd : decide (q.length = t.length) = true := by simp [hq]
  simp only [hq', hd, Bool.not_true, cond_false, cond_true, Option.bind_some, Bool.true_and]
  rw [if_pos (Int.le_refl _), if_pos (by omega)]
  have e0 : zC q 0 = q.getD 0 0 := rfl
  rw [e0]
  try simp only [Option.bind_some]
  by_cases hz : q.getD 0 0 = 0
  ·have hz1 : (q.getD 0 0 != 0) = false := by rw [hz]; rfl
   have hz2 : (q.getD 0 0 == 0) = true := by rw [hz]; rfl
   rw [hz1, hz2]
   simp only [cond_false, Bool.true_and]
   unfold Qc
   refine (y2J (step := jY _ _) (fun (i s : Int) => (s, t, (t.length : Int), i, q, t)) (Qo q) y3t (some false) (fun s => some (decide (s ≤ 60))) yB t (by omega) ?_ ?_ 0).trans ?_
   ·intro again i s h0 h1
    have hmem : yg t i ∈ t := zi yB t i h0 h1
    obtain ⟨hn, hss⟩ := ht.node hmem
    have hw : Go.IntKind.wrap .i64 (i + 1) = i + 1 := w64 (by omega) (by omega)
    have hm : Go.IntKind.wrap .i64 (i - 1) = i - 1 := w64 (by omega) (by omega)
    have e3 := V2 (yg t i) (by omega) (fun s hh => by have := hss s hh; omega)
    have e4 := y20 q t i ht h0 h1 hq
    have e5 : yH (yg t i) = some (yZ (yg t i)) := jh _ (by omega) (ht.sumK hmem)
    unfold jY Qo ykv y9D ydi y3t
    have hx : t.getD i.toNat yB = yg t i := rfl
    have e1 : q.getD i.toNat 0 = zC q i := rfl
    have e2 : q.getD (i - 1).toNat 0 = zC q (i - 1) := rfl
    rw [hx, e1, e2]
    simp only [Bool.cond_eq_ite, decide_eq_true_eq, h0, h1, if_true, hw, hm, e3, e4, e5, gt_iff_lt, Option.bind_some]
    by_cases h5 : 0 < i
    ·rw [if_pos h5, if_pos (by omega), if_pos (by omega), if_pos (by omega)]
     simp only [h5, decide_true, Option.bind_some, Bool.true_and, if_true]
     cases decide (zC q (i - 1) ≥ zC q i) <;> cases Yk (yg t i) <;> cases Yh (ydh q i) (yg t i) 0 <;> cases (((yZ (yg t i)).length : Int) == 0) <;> rfl
    ·rw [if_neg h5]
     simp only [h5, decide_false, Option.bind_some, Bool.false_and, if_false]
     cases Yk (yg t i) <;> cases Yh (ydh q i) (yg t i) 0 <;> rfl
   ·intro again i s hi
    unfold jY
    simp only [Bool.cond_eq_ite, decide_eq_true_eq, if_neg hi]
   ·have := ydj t [] (by have := ht.sum; simpa using this)
    simp only [List.length_nil] at this
    rw [show ((0 : Nat) : Int) = 0 from rfl] at this
    rw [this]
    unfold z4
    cases Yh (Qo q) t 0 <;> rfl
  ·have hz1 : (q.getD 0 0 != 0) = true := by simpa using hz
   have hz2 : (q.getD 0 0 == 0) = false := by simpa using hz
   rw [hz1, hz2]
   rfl
 ·have hq' : ((q.length : Int) != (t.length : Int)) = true := by
   simp only [bne_iff_ne, ne_eq]
   omega
  have hd : decide (q.length = t.length) = false := by simp [hq]
  simp only [hq', hd, Bool.not_true, cond_false, cond_true, Option.bind_some, Bool.false_and, Bool.and_false]
end Go.Proofs.YthgdjjdigalckaaGreat.Pl
namespace Go.Proofs.YthgdjjdigalckaaGreat.Pl
open Go.Proofs.YthgdjjdigalckaaGreat.R Go.Proofs.YthgdjjdigalckaaGreat.XT
def isW (n : Int) : Bool := inR n 0 65535
theorem Vw (x : Int) : zm x = some (isW x) := by unfold zm; rw [Yr]; rfl
theorem y87 (x : Int) : Jv x = some (isW x) := by unfold Jv; rw [Z6]; rfl
def y70 (c : Int) : Bool := inR c 97 122 || inR c 48 57
def VV (l : List UInt8) : Bool := l.all fun c => y70 (c.toNat : Int)
def jy (s : ByteArray) : Bool := VV s.data.toList && inR s.size 1 6
theorem yaD (c : UInt8) : Go.IntKind.wrap .i64 (c.toNat : Int) = c.toNat := by
 have := c.toNat_lt
 exact w64 (by omega) (by omega)
theorem yfr (s : ByteArray) (i : Nat) (h : i < s.size) : ByteArray.get s i h = s.data.toList[i]'(by rw [Array.length_toList]; exact h) := by
 rw [Array.getElem_toList]
 rfl
theorem y88 (s : ByteArray) (i : Nat) (h : i < s.size) : s.data.toList.drop i = ByteArray.get s i h :: s.data.toList.drop (i + 1) := by
 rw [yfr, ← List.drop_eq_getElem_cons]
theorem wc (s : ByteArray) (hs : s.size ≤ maxLen) : Ya s = some (jy s) := by
 have hm : (s.size : Int) ≤ 9223372036854775807 := by simp only [maxLen] at hs; omega
 unfold Ya qT
 rw [Yo (fun t : ByteArray × Int => t.1.size - t.2.toNat) (fun t => t.1 = s ∧ 0 ≤ t.2 ∧ t.2 ≤ s.size) (fun t => if VV (t.1.data.toList.drop t.2.toNat) then some (inR s.size 1 6) else some false) ?_ (s, 0) ⟨rfl, by simp, by simp⟩ (by simp only [maxLen] at hs; simp; omega)]
 ·unfold jy
  cases h : VV s.data.toList <;> simp [h]
 ·rintro again ⟨s', i⟩ ⟨rfl, h0, h1⟩ hag
  simp only at h0 h1 hs hm ⊢
  unfold KK
  simp only [Bool.cond_eq_ite, decide_eq_true_eq]
  by_cases hi : i < (s'.size : Int)
  ·have hn : i.toNat < s'.size := by omega
   rw [if_pos hi, if_pos h0, dif_pos hn]
   simp only [Yr, Option.bind_some, if_pos h0, dif_pos hn, yaD]
   rw [y88 s' i.toNat hn]
   have hw : Go.IntKind.wrap .i64 (i + 1) = i + 1 := w64 (by omega) (by omega)
   have e1 : (i + 1).toNat = i.toNat + 1 := by omega
   have hag' := hag (s', i + 1) ⟨rfl, by simp only; omega, by simp only; omega⟩ (by simp only; omega)
   simp only [VV, List.all_cons, y70] at hag' ⊢
   rw [hw, hag', e1]
   obtain ⟨c, hc⟩ : ∃ c, ByteArray.get s' i.toNat hn = c := ⟨_, rfl⟩
   simp only [hc]
   cases inR (c.toNat : Int) 97 122 <;> cases inR (c.toNat : Int) 48 57 <;> simp
  ·rw [if_neg hi, List.drop_of_length_le (by rw [Array.length_toList]; show s'.size ≤ _; omega)]
   simp [VV, Yr]
theorem y48 (s : ByteArray) (hs : s.size ≤ maxLen) : Wy s = some (jy s) := by
 have hm : (s.size : Int) ≤ 9223372036854775807 := by simp only [maxLen] at hs; omega
 unfold Wy Qe
 rw [Yo (fun t : ByteArray × Int => t.1.size - t.2.toNat) (fun t => t.1 = s ∧ 0 ≤ t.2 ∧ t.2 ≤ s.size) (fun t => if VV (t.1.data.toList.drop t.2.toNat) then some (inR s.size 1 6) else some false) ?_ (s, 0) ⟨rfl, by simp, by simp⟩ (by simp only [maxLen] at hs; simp; omega)]
 ·unfold jy
  cases h : VV s.data.toList <;> simp [h]
 ·rintro again ⟨s', i⟩ ⟨rfl, h0, h1⟩ hag
  simp only at h0 h1 hs hm ⊢
  unfold vc
  simp only [Bool.cond_eq_ite, decide_eq_true_eq]
  by_cases hi : i < (s'.size : Int)
  ·have hn : i.toNat < s'.size := by omega
   rw [if_pos hi, if_pos h0, dif_pos hn]
   simp only [Z6, Option.bind_some, if_pos h0, dif_pos hn, yaD]
   rw [y88 s' i.toNat hn]
   have hw : Go.IntKind.wrap .i64 (i + 1) = i + 1 := w64 (by omega) (by omega)
   have e1 : (i + 1).toNat = i.toNat + 1 := by omega
   have hag' := hag (s', i + 1) ⟨rfl, by simp only; omega, by simp only; omega⟩ (by simp only; omega)
   simp only [VV, List.all_cons, y70] at hag' ⊢
   rw [hw, hag', e1]
   obtain ⟨c, hc⟩ : ∃ c, ByteArray.get s' i.toNat hn = c := ⟨_, rfl⟩
   simp only [hc]
   cases inR (c.toNat : Int) 97 122 <;> cases inR (c.toNat : Int) 48 57 <;> simp
  ·rw [if_neg hi, List.drop_of_length_le (by rw [Array.length_toList]; show s'.size ≤ _; omega)]
   simp [VV, Z6]
end Go.Proofs.YthgdjjdigalckaaGreat.Pl
namespace Go.Proofs.YthgdjjdigalckaaGreat.Pl
open Go.Proofs.YthgdjjdigalckaaGreat.R Go.Proofs.YthgdjjdigalckaaGreat.XT
def ydk (l : List yd) (i : Int) : List yd := List.drop (Int.toNat (0 : Int)) (List.take (Int.toNat i) l)
def y89 (l : List yd) (i : Int) (a : yd) : Bool := !inR a.1 1 60 || ((decide (0 < i) && decide ((l.getD (i - 1).toNat YI).1 ≥ a.1)) || (a.2 != 0 && decide (Yp (ydk l i) a.2 < 0)))
def WH (l : List yd) : Bool := !Yh (y89 l) l 0 && decide ((l.length : Int) ≤ 16)
theorem yaE (l : List yd) (i : Int) : (ydk l i).length ≤ l.length := by
 unfold ydk
 simp only [List.length_drop, List.length_take]
 omega
theorem kC (l : List yd) (hl : l.length ≤ 1048576) : YS l = some (WH l) := by
 unfold YS qS WH
 refine (zK (step := jK _ _) (fun i => (l, i)) (y89 l) (some false) (some (decide ((l.length : Int) ≤ 16))) YI l (by omega) ?_ ?_).trans ?_
 ·intro again i h0 h1
  have hw : Go.IntKind.wrap .i64 (i + 1) = i + 1 := w64 (by omega) (by omega)
  have hm : Go.IntKind.wrap .i64 (i - 1) = i - 1 := w64 (by omega) (by omega)
  unfold jK y89
  obtain ⟨⟨x1, x2⟩, hx⟩ : ∃ x, yK l i = x := ⟨_, rfl⟩
  have hx' : l.getD i.toNat YI = (x1, x2) := hx
  have hy : l.getD (i - 1).toNat YI = yK l (i - 1) := rfl
  have e : zD (List.drop (Int.toNat (0 : Int)) (List.take (Int.toNat i) l), x2) = some (Yp (ydk l i) x2) := Z5 (ydk l i) x2 (by have := yaE l i; omega)
  rw [hx', hy]
  have h2 : i ≤ (l.length : Int) := by omega
  simp only [Bool.cond_eq_ite, decide_eq_true_eq, h0, h1, h2, if_true, hw, hm, hx, Yr, e, Option.bind_some, Int.le_refl, gt_iff_lt]
  cases inR x1 1 60
  ·rfl
  ·by_cases h5 : 0 < i
   ·have h3 : 0 ≤ i - 1 := by omega
    have h4 : i - 1 < (l.length : Int) := by omega
    simp only [h5, h3, h4, if_true, decide_true]
    cases decide ((yK l (i - 1)).1 ≥ x1) <;> cases (x2 != 0) <;> cases decide (Yp (ydk l i) x2 < 0) <;> rfl
   ·simp only [h5, if_false, decide_false]
    cases (x2 != 0) <;> cases decide (Yp (ydk l i) x2 < 0) <;> rfl
 ·intro again i hi
  unfold jK
  simp only [Bool.cond_eq_ite, decide_eq_true_eq, if_neg hi]
 ·cases Yh (y89 l) l 0 <;> rfl
theorem y49 (l : List yd) (hl : l.length ≤ 1048576) : Wx l = some (WH l) := by
 unfold Wx Qd WH
 refine (zK (step := jZ _ _) (fun i => (l, l, (l.length : Int), i)) (y89 l) (some false) (some (decide ((l.length : Int) ≤ 16))) YI l (by omega) ?_ ?_).trans ?_
 ·intro again i h0 h1
  have hw : Go.IntKind.wrap .i64 (i + 1) = i + 1 := w64 (by omega) (by omega)
  have hm : Go.IntKind.wrap .i64 (i - 1) = i - 1 := w64 (by omega) (by omega)
  unfold jZ y89
  obtain ⟨⟨x1, x2⟩, hx⟩ : ∃ x, yK l i = x := ⟨_, rfl⟩
  have hx' : l.getD i.toNat YI = (x1, x2) := hx
  have hy : l.getD (i - 1).toNat YI = yK l (i - 1) := rfl
  have e : ZI (List.drop (Int.toNat (0 : Int)) (List.take (Int.toNat i) l), x2) = some (Yp (ydk l i) x2) := VU (ydk l i) x2 (by have := yaE l i; omega)
  rw [hx', hy]
  have h2 : i ≤ (l.length : Int) := by omega
  simp only [Bool.cond_eq_ite, decide_eq_true_eq, h0, h1, h2, if_true, hw, hm, hx, Z6, e, Option.bind_some, Int.le_refl, gt_iff_lt]
  cases inR x1 1 60
  ·rfl
  ·by_cases h5 : 0 < i
   ·have h3 : 0 ≤ i - 1 := by omega
    have h4 : i - 1 < (l.length : Int) := by omega
    simp only [h5, h3, h4, if_true, decide_true]
    cases decide ((yK l (i - 1)).1 ≥ x1) <;> cases (x2 != 0) <;> cases decide (Yp (ydk l i) x2 < 0) <;> rfl
   ·simp only [h5, if_false, decide_false]
    cases (x2 != 0) <;> cases decide (Yp (ydk l i) x2 < 0) <;> rfl
 ·intro again i hi
  unfold jZ
  simp only [Bool.cond_eq_ite, decide_eq_true_eq, if_neg hi]
 ·cases Yh (y89 l) l 0 <;> rfl
def Qp (id : Int) (s : List Int) (a : yd) : List Int := if (a.2 == id && id != 0) = true then s ++ [a.1] else s
def Yi (l : List yd) (id : Int) : List Int := l.foldl (Qp id) []
theorem y4U (id : Int) (s : List Int) (a : yd) : (Qp id s a).length ≤ s.length + 1 := by
 unfold Qp
 split <;> simp
theorem kD (l : List yd) (id : Int) (hl : l.length ≤ 1048576) : ZM (l, id) = some (Yi l id) := by
 unfold ZM qU Yi
 refine Ye (step := jL _) (fun (i : Int) (s : List Int) => (l, id, i, s)) (fun s => some s) YI (Qp id) l (by omega) (fun i s => s.length ≤ i) ?_ ?_ [] (by simp)
 ·intro again i s h0 h1 hI
  have hw : Go.IntKind.wrap .i64 (i + 1) = i + 1 := w64 (by omega) (by omega)
  have hs := y4U id s (l.getD i.toNat YI)
  refine ⟨?_, by omega⟩
  have c1 : (s.length + 1) * 8 < 140737488355328 := by omega
  clear hs
  unfold jL Qp
  obtain ⟨⟨x1, x2⟩, hx⟩ : ∃ x, yK l i = x := ⟨_, rfl⟩
  have hx' : l.getD i.toNat YI = (x1, x2) := hx
  rw [hx']
  simp only [Bool.cond_eq_ite, decide_eq_true_eq, h0, h1, if_true, hw, hx, List.length_cons, List.length_nil, Nat.zero_add, c1]
  cases (x2 == id) <;> cases (id != 0) <;> rfl
 ·intro again i s hi
  unfold jL
  simp only [Bool.cond_eq_ite, decide_eq_true_eq, if_neg hi]
theorem ydl (l : List yd) : Yi l 0 = [] := by
 have : ∀ (l : List yd) (s : List Int), l.foldl (Qp 0) s = s := by
  intro l
  induction l with
  | nil => intro s; rfl
  | cons a l ih =>
   intro s
   rw [List.foldl_cons, ih]
   unfold Qp
   simp
 exact this l []
theorem y4a (l : List yd) (id : Int) (hl : l.length ≤ 1048576) : Wz (l, id) = some (Yi l id) := by
 unfold Wz
 by_cases hid : id = 0
 ·subst hid
  rw [ydl]
  rfl
 ·have hid1 : (id == 0) = false := by simpa using hid
  have hid2 : (id != 0) = true := by simpa using hid
  simp only [hid1, cond_false]
  unfold Qg Yi
  refine Ye (step := J0 _) (fun (i : Int) (s : List Int) => (id, l, (l.length : Int), i, s)) (fun s => some s) YI (Qp id) l (by omega) (fun i s => s.length ≤ i) ?_ ?_ [] (by simp)
  ·intro again i s h0 h1 hI
   have hw : Go.IntKind.wrap .i64 (i + 1) = i + 1 := w64 (by omega) (by omega)
   have hs := y4U id s (l.getD i.toNat YI)
   refine ⟨?_, by omega⟩
   have c1 : (s.length + 1) * 8 < 140737488355328 := by omega
   clear hs
   unfold J0 Qp
   obtain ⟨⟨x1, x2⟩, hx⟩ : ∃ x, yK l i = x := ⟨_, rfl⟩
   have hx' : l.getD i.toNat YI = (x1, x2) := hx
   rw [hx']
   simp only [Bool.cond_eq_ite, decide_eq_true_eq, h0, h1, if_true, hw, hx, List.length_cons, List.length_nil, Nat.zero_add, c1, hid2]
   cases (x2 == id) <;> rfl
  ·intro again i s hi
   unfold J0
   simp only [Bool.cond_eq_ite, decide_eq_true_eq, if_neg hi]
def y8a (_ : Int) (a : y9) : Bool := !inR a.1 0 999 || (!isW a.2.2 || (!a.2.1 && a.2.2 != 0))
def zA (l : List y9) : Bool := !Yh y8a l 0 && ((l.length : Int) == 24)
theorem Jc (l : List y9) (hl : l.length ≤ 1048576) : Zb l = some (zA l) := by
 unfold Zb qh zA
 refine (zK (step := ZW _ _) (fun i => (l, i)) y8a (some false) (some ((l.length : Int) == 24)) yS l (by omega) ?_ ?_).trans ?_
 ·intro again i h0 h1
  have hw : Go.IntKind.wrap .i64 (i + 1) = i + 1 := w64 (by omega) (by omega)
  unfold ZW y8a
  obtain ⟨⟨x1, x2, x3⟩, hx⟩ : ∃ x, yj l i = x := ⟨_, rfl⟩
  have hx' : l.getD i.toNat yS = (x1, x2, x3) := hx
  rw [hx']
  simp only [Bool.cond_eq_ite, decide_eq_true_eq, h0, h1, if_true, hw, hx, Yr, Vw, Option.bind_some]
  cases inR x1 0 999 <;> cases isW x3 <;> cases x2 <;> cases (x3 != 0) <;> rfl
 ·intro again i hi
  unfold ZW
  simp only [Bool.cond_eq_ite, decide_eq_true_eq, if_neg hi]
 ·cases Yh y8a l 0 <;> rfl
theorem vm (l : List y9) (hl : l.length ≤ 1048576) : Ze l = some (zA l) := by
 unfold Ze qn zA
 refine (zK (step := ja _ _) (fun i => (l, l, (l.length : Int), i)) y8a (some false) (some ((l.length : Int) == 24)) yS l (by omega) ?_ ?_).trans ?_
 ·intro again i h0 h1
  have hw : Go.IntKind.wrap .i64 (i + 1) = i + 1 := w64 (by omega) (by omega)
  unfold ja y8a
  obtain ⟨⟨x1, x2, x3⟩, hx⟩ : ∃ x, yj l i = x := ⟨_, rfl⟩
  have hx' : l.getD i.toNat yS = (x1, x2, x3) := hx
  rw [hx']
  simp only [Bool.cond_eq_ite, decide_eq_true_eq, h0, h1, if_true, hw, hx, Z6, y87, Option.bind_some]
  cases inR x1 0 999 <;> cases isW x3 <;> cases x2 <;> cases (x3 != 0) <;> rfl
 ·intro again i hi
  unfold ja
  simp only [Bool.cond_eq_ite, decide_eq_true_eq, if_neg hi]
 ·cases Yh y8a l 0 <;> rfl
def VW (s : Int) (a : y9) : Int := if a.2.1 = true then Go.IntKind.wrap .i64 (s + 1) else s
def y4b (l : List y9) : Int := l.foldl VW 0
theorem y8b (l : List y9) (hl : l.length ≤ 1048576) : ZZ l = some (y4b l) := by
 unfold ZZ vG y4b
 refine Ye (step := YT _) (fun (i s : Int) => (l, s, i)) (fun s => some s) yS VW l (by omega) (fun _ _ => True) ?_ ?_ 0 trivial
 ·intro again i s h0 h1 _
  have hw : Go.IntKind.wrap .i64 (i + 1) = i + 1 := w64 (by omega) (by omega)
  refine ⟨?_, trivial⟩
  unfold YT VW
  obtain ⟨⟨x1, x2, x3⟩, hx⟩ : ∃ x, yj l i = x := ⟨_, rfl⟩
  have hx' : l.getD i.toNat yS = (x1, x2, x3) := hx
  rw [hx']
  simp only [Bool.cond_eq_ite, decide_eq_true_eq, h0, h1, if_true, hw, hx]
  cases x2 <;> rfl
 ·intro again i s hi
  unfold YT
  simp only [Bool.cond_eq_ite, decide_eq_true_eq, if_neg hi]
theorem y8c (l : List y9) (hl : l.length ≤ 1048576) : jb l = some (y4b l) := by
 unfold jb vM y4b
 refine Ye (step := Z0 _) (fun (i s : Int) => (s, l, (l.length : Int), i)) (fun s => some s) yS VW l (by omega) (fun _ _ => True) ?_ ?_ 0 trivial
 ·intro again i s h0 h1 _
  have hw : Go.IntKind.wrap .i64 (i + 1) = i + 1 := w64 (by omega) (by omega)
  refine ⟨?_, trivial⟩
  unfold Z0 VW
  obtain ⟨⟨x1, x2, x3⟩, hx⟩ : ∃ x, yj l i = x := ⟨_, rfl⟩
  have hx' : l.getD i.toNat yS = (x1, x2, x3) := hx
  rw [hx']
  simp only [Bool.cond_eq_ite, decide_eq_true_eq, h0, h1, if_true, hw, hx]
  cases x2 <;> rfl
 ·intro again i s hi
  unfold Z0
  simp only [Bool.cond_eq_ite, decide_eq_true_eq, if_neg hi]
def vn (l : List y9) (i gen : Int) : Int × Bool :=
 if inR i 0 ((l.length : Int) - 1) && ((l.getD i.toNat yS).2.1 && ((l.getD i.toNat yS).1 == gen)) then ((l.getD i.toNat yS).2.2, true) else (0, false)
theorem y05 (l : List y9) (i gen : Int) (hl : l.length ≤ 1048576) : Jl (l, i, gen) = some (vn l i gen) := by
 unfold Jl vn
 have hm : Go.IntKind.wrap .i64 ((l.length : Int) - 1) = (l.length : Int) - 1 := w64 (by omega) (by omega)
 obtain ⟨⟨x1, x2, x3⟩, hx⟩ : ∃ x, yj l i = x := ⟨_, rfl⟩
 have hx' : l.getD i.toNat yS = (x1, x2, x3) := hx
 rw [hx']
 simp only [hm, hx, Yr, Option.bind_some]
 by_cases hr : inR i 0 ((l.length : Int) - 1) = true
 ·obtain ⟨h0, h1⟩ := zZ.1 hr
  rw [hr, if_pos h0, if_pos (by omega), if_pos h0, if_pos (by omega), if_pos h0, if_pos (by omega)]
  by_cases hg : x1 = gen
  ·have g1 : (x1 != gen) = false := by simp [hg]
   have g2 : (x1 == gen) = true := by simp [hg]
   rw [g1, g2]
   cases x2 <;> rfl
  ·have g1 : (x1 != gen) = true := by simpa using hg
   have g2 : (x1 == gen) = false := by simpa using hg
   rw [g1, g2]
   cases x2 <;> rfl
 ·have : inR i 0 ((l.length : Int) - 1) = false := by simpa using hr
  rw [this]
  rfl
theorem y4c (l : List y9) (i gen : Int) (hl : l.length ≤ 1048576) : WD (l, i, gen) = some (vn l i gen) := by
 rw [← y05 l i gen hl]
 unfold WD Jl
 simp only [Z6, Yr]
end Go.Proofs.YthgdjjdigalckaaGreat.Pl
namespace Go.Proofs.YthgdjjdigalckaaGreat.Pl
open Go.Proofs.YthgdjjdigalckaaGreat.R Go.Proofs.YthgdjjdigalckaaGreat.XT
theorem yaF {A : Type} (p : A → Bool) : ∀ (l : List A) (i j : Int), 0 ≤ i → decide (0 ≤ Y7 p l i) = Yh (fun _ a => p a) l j
 | [], i, j, _ => rfl
 | a :: l, i, j, h => by
  rw [Y7, Yh, ← yaF p l (i + 1) (j + 1) (by omega)]
  cases p a with
  | true => simp [h]
  | false => rfl
theorem y8d {A : Type} (da : A) (l : List A) (i j : Int) (h0 : 0 ≤ j) (h : j < i) : (l.take i.toNat).getD j.toNat da = l.getD j.toNat da := by
 rw [List.getD_eq_getElem?_getD, List.getD_eq_getElem?_getD, List.getElem?_take, if_pos (by omega)]
theorem yaG {A : Type} (l : List A) (i : Int) (h0 : 0 ≤ i) (h : i ≤ (l.length : Int)) : ((l.take i.toNat).length : Int) = i := by
 rw [List.length_take]
 omega
def WI (age : Int) (_ : Int) (u : ym) : Bool := u.2.1 == age
def yfs (vs : List ym) (l : List yd) (i : Int) (v : ym) : Bool :=
 !jy v.1 || (!inR v.2.2.1 1 12 || (decide (Yp l v.2.1 < 0) || (decide (((Yi l v.2.1).length : Int) > 0) || ((decide (0 < i) && !Go.Op.bytesLess (ByteArray.toList (vs.getD (i - 1).toNat WM).1) (ByteArray.toList v.1)) || Yh (WI v.2.1) (vs.take i.toNat) 0))))
def vo (vs : List ym) (l : List yd) : Bool := !Yh (yfs vs l) vs 0 && decide ((vs.length : Int) ≤ 6)
theorem y3u {R : Type} (k0 : (Bool × Int × List yf × List y0 × List yd × List y9 × List ym × Int) → Option R) (k1 : (Int × List yf × List y0 × List yd × List y9 × List ym × Int) → Option R) (i : Int) (q : List Int) (t : List y0) (l : List yd) (cs : List y9) (vs : List ym) (z : Int) (v1 : ByteArray) (v2 v3 : Int) (v4 : Bool) (h0 : 0 ≤ i) (h1 : i ≤ (vs.length : Int)) (hv : vs.length ≤ 1048576) :
  K4 k0 k1 (i, 0, q, t, l, cs, vs, z, v1, v2, v3, v4) = if Yh (WI v2) (vs.take i.toNat) 0 = true then k0 (false, i, q, t, l, cs, vs, z) else k1 (i, q, t, l, cs, vs, z) := by
 unfold K4
 have hlen := yaG vs i h0 h1
 refine zK (step := ZX k0 k1) (fun k => (i, k, q, t, l, cs, vs, z, v1, v2, v3, v4)) (WI v2) _ _ WM (vs.take i.toNat) (by omega) ?_ ?_
 ·intro again k hk0 hk1
  rw [hlen] at hk1
  have hw : Go.IntKind.wrap .i64 (k + 1) = k + 1 := w64 (by omega) (by omega)
  have hk2 : k < (vs.length : Int) := by omega
  unfold ZX WI
  rw [y8d WM vs i k hk0 hk1]
  have hx : vs.getD k.toNat WM = yq vs k := rfl
  rw [hx]
  simp only [Bool.cond_eq_ite, decide_eq_true_eq, hk0, hk1, hk2, if_true, hw]
 ·intro again k hk
  rw [hlen] at hk
  unfold ZX
  simp only [Bool.cond_eq_ite, decide_eq_true_eq, if_neg hk]
theorem y8e (q : List Int) (t : List y0) (l : List yd) (cs : List y9) (vs : List ym) (z : Int) (hl : l.length ≤ 1048576) (hv : vs.length ≤ 1048576) (hvn : ∀ v ∈ vs, ByteArray.size v.1 ≤ maxLen) : JL (q, t, l, cs, vs, z) = some (vo vs l) := by
 unfold JL qi vo
 refine (zK (step := ZY _ _) (fun i => (i, q, t, l, cs, vs, z)) (yfs vs l) (some false) (some (decide ((vs.length : Int) ≤ 6))) WM vs (by omega) ?_ ?_).trans ?_
 ·intro again i h0 h1
  have hw : Go.IntKind.wrap .i64 (i + 1) = i + 1 := w64 (by omega) (by omega)
  have hm : Go.IntKind.wrap .i64 (i - 1) = i - 1 := w64 (by omega) (by omega)
  have hmem := hvn _ (zi WM vs i h0 h1)
  unfold ZY yfs
  obtain ⟨⟨x1, x2, x3, x4⟩, hx⟩ : ∃ x, yq vs i = x := ⟨_, rfl⟩
  have hx' : vs.getD i.toNat WM = (x1, x2, x3, x4) := hx
  have hy : vs.getD (i - 1).toNat WM = yq vs (i - 1) := rfl
  rw [hx'] at hmem
  rw [hx', hy]
  have e1 := wc x1 hmem
  have e2 := Z5 l x2 (by omega)
  have e3 := kD l x2 hl
  simp only [Bool.cond_eq_ite, decide_eq_true_eq, h0, h1, if_true, hw, hm, hx, Yr, e1, e2, e3, y3u _ _ i q t l cs vs z x1 x2 x3 x4 h0 (by omega) hv, Option.bind_some, gt_iff_lt]
  cases jy x1
  ·rfl
  by_cases h5 : 0 < i
  ·have h3 : 0 ≤ i - 1 := by omega
   have h4 : i - 1 < (vs.length : Int) := by omega
   simp only [h5, h3, h4, if_true, decide_true]
   by_cases ha : Yp l x2 < 0 <;> by_cases hk : (0 : Int) < ((Yi l x2).length : Int) <;> simp only [ha, hk, if_true, if_false, decide_true, decide_false] <;> cases Go.Op.bytesLess (ByteArray.toList (yq vs (i - 1)).1) (ByteArray.toList x1) <;> cases inR x3 1 12 <;> cases Yh (WI x2) (vs.take i.toNat) 0 <;> rfl
  ·simp only [h5, if_false, decide_false]
   by_cases ha : Yp l x2 < 0 <;> by_cases hk : (0 : Int) < ((Yi l x2).length : Int) <;> simp only [ha, hk, if_true, if_false, decide_true, decide_false] <;> cases inR x3 1 12 <;> cases Yh (WI x2) (vs.take i.toNat) 0 <;> rfl
 ·intro again i hi
  unfold ZY
  simp only [Bool.cond_eq_ite, decide_eq_true_eq, if_neg hi]
 ·cases Yh (yfs vs l) vs 0 <;> rfl
theorem y9E (l : List ym) (v1 : ByteArray) (v2 v3 : Int) (v4 : Bool) (hl : l.length ≤ 1048576) : yD (l, v1, v2, v3, v4) = some (Yh (WI v2) l 0, v1, v2, v3, v4) := by
 have key : yV (l, v1, v2, v3, v4) = some (Y7 (fun u : ym => u.2.1 == v2) l 0, v1, v2, v3, v4) := by
  unfold yV Yg
  refine (ZD (step := yP _ _) (fun i => (l, (l.length : Int), i, v1, v2, v3, v4)) (fun u : ym => u.2.1 == v2) (fun x => some (x, v1, v2, v3, v4)) (some (-1, v1, v2, v3, v4)) WM l (by omega) ?_ ?_).trans ?_
  ·intro again i h0 h1
   have hw : Go.IntKind.wrap .i64 (i + 1) = i + 1 := w64 (by omega) (by omega)
   unfold yP WA
   simp only [Bool.cond_eq_ite, decide_eq_true_eq, h0, h1, if_true, hw, Option.bind_some]
   rfl
  ·intro again i hi
   unfold yP
   simp only [Bool.cond_eq_ite, decide_eq_true_eq, if_neg hi]
  ·rcases wM (fun u : ym => u.2.1 == v2) WM l 0 (Int.le_refl _) with h | ⟨h1, h2, h3⟩
   ·rw [h]
    rfl
   ·rw [if_neg (by omega)]
 unfold yD
 rw [key]
 simp only [Option.bind_some, ge_iff_le]
 rw [yaF _ l 0 0 (Int.le_refl _)]
 rfl
theorem y8f (q : List Int) (t : List y0) (l : List yd) (cs : List y9) (vs : List ym) (z : Int) (hl : l.length ≤ 1048576) (hv : vs.length ≤ 1048576) (hvn : ∀ v ∈ vs, ByteArray.size v.1 ≤ maxLen) : WB (q, t, l, cs, vs, z) = some (vo vs l) := by
 unfold WB Qh vo
 refine (zK (step := J1 _ _) (fun i => (vs, (vs.length : Int), i, q, t, l, cs, vs, z)) (yfs vs l) (some false) (some (decide ((vs.length : Int) ≤ 6))) WM vs (by omega) ?_ ?_).trans ?_
 ·intro again i h0 h1
  have hw : Go.IntKind.wrap .i64 (i + 1) = i + 1 := w64 (by omega) (by omega)
  have hm : Go.IntKind.wrap .i64 (i - 1) = i - 1 := w64 (by omega) (by omega)
  have hmem := hvn _ (zi WM vs i h0 h1)
  unfold J1 yfs
  obtain ⟨⟨x1, x2, x3, x4⟩, hx⟩ : ∃ x, yq vs i = x := ⟨_, rfl⟩
  have hx' : vs.getD i.toNat WM = (x1, x2, x3, x4) := hx
  have hy : vs.getD (i - 1).toNat WM = yq vs (i - 1) := rfl
  rw [hx'] at hmem
  rw [hx', hy]
  have e1 := y48 x1 hmem
  have e2 := VU l x2 (by omega)
  have e3 := y4a l x2 hl
  have e4 : yD (List.drop (Int.toNat (0 : Int)) (List.take (Int.toNat i) vs), x1, x2, x3, x4) = some (Yh (WI x2) (vs.take i.toNat) 0, x1, x2, x3, x4) := y9E (vs.take i.toNat) x1 x2 x3 x4 (by simp only [List.length_take]; omega)
  have h2 : i ≤ (vs.length : Int) := by omega
  simp only [Bool.cond_eq_ite, decide_eq_true_eq, h0, h1, h2, if_true, hw, hm, hx, Z6, e1, e2, e3, e4, Option.bind_some, gt_iff_lt, Int.le_refl]
  cases jy x1
  ·rfl
  by_cases h5 : 0 < i
  ·have h3 : 0 ≤ i - 1 := by omega
   have h4 : i - 1 < (vs.length : Int) := by omega
   simp only [h5, h3, h4, if_true, decide_true]
   by_cases ha : Yp l x2 < 0 <;> by_cases hk : (0 : Int) < ((Yi l x2).length : Int) <;> simp only [ha, hk, if_true, if_false, decide_true, decide_false] <;> cases Go.Op.bytesLess (ByteArray.toList (yq vs (i - 1)).1) (ByteArray.toList x1) <;> cases inR x3 1 12 <;> cases Yh (WI x2) (vs.take i.toNat) 0 <;> rfl
  ·simp only [h5, if_false, decide_false]
   by_cases ha : Yp l x2 < 0 <;> by_cases hk : (0 : Int) < ((Yi l x2).length : Int) <;> simp only [ha, hk, if_true, if_false, decide_true, decide_false] <;> cases inR x3 1 12 <;> cases Yh (WI x2) (vs.take i.toNat) 0 <;> rfl
 ·intro again i hi
  unfold J1
  simp only [Bool.cond_eq_ite, decide_eq_true_eq, if_neg hi]
 ·cases Yh (yfs vs l) vs 0 <;> rfl
end Go.Proofs.YthgdjjdigalckaaGreat.Pl
namespace Go.Proofs.YthgdjjdigalckaaGreat.Pl
open Go.Proofs.YthgdjjdigalckaaGreat.R Go.Proofs.YthgdjjdigalckaaGreat.XT
def zb (c : Int) (_ : Int) (u : ya) : Bool := (u.2.2.1 == 1) && (u.2.2.2.1 == c)
def ybP (ks : List ya) (l : List yd) (cs : List y9) (i : Int) (a : ya) : Bool :=
 decide (Yp l a.2.1 < 0) || ((a.2.2.1 == 1) && (!(vn cs a.2.2.2.1 a.2.2.2.2).2 || Yh (zb a.2.2.2.1) (ks.take i.toNat) 0))
def Qq (n : Int) (a : ya) : Int := if (a.2.2.1 == 1) = true then Go.IntKind.wrap .i64 (n + 1) else n
def kE (ks : List ya) (l : List yd) (cs : List y9) : Bool := !Yh (ybP ks l cs) ks 0 && (ks.foldl Qq 0 == y4b cs)
theorem y3v {R : Type} (k0 : (Bool × Int × Int × List yf × List y0 × List yd × List y9 × List ym × Int × List ya) → Option R) (k1 : (Int × Int × List yf × List y0 × List yd × List y9 × List ym × Int × List ya) → Option R) (n i : Int) (q : List Int) (t : List y0) (l : List yd) (cs : List y9) (vs : List ym) (z : Int) (ks : List ya) (h0 : 0 ≤ i) (h1 : i < (ks.length : Int)) (hk : ks.length ≤ 1048576) :
  WX k0 k1 (n, i, 0, q, t, l, cs, vs, z, ks) = if Yh (zb (y8 ks i).2.2.2.1) (ks.take i.toNat) 0 = true then k0 (false, n, i, q, t, l, cs, vs, z, ks) else k1 (n, i, q, t, l, cs, vs, z, ks) := by
 unfold WX
 have hlen := yaG ks i h0 (by omega)
 refine zK (step := Zk k0 k1) (fun k => (n, i, k, q, t, l, cs, vs, z, ks)) (zb (y8 ks i).2.2.2.1) _ _ yL (ks.take i.toNat) (by omega) ?_ ?_
 ·intro again k hk0 hk1
  rw [hlen] at hk1
  have hw : Go.IntKind.wrap .i64 (k + 1) = k + 1 := w64 (by omega) (by omega)
  have hk2 : k < (ks.length : Int) := by omega
  unfold Zk zb
  rw [y8d yL ks i k hk0 hk1]
  have hx : ks.getD k.toNat yL = y8 ks k := rfl
  rw [hx]
  simp only [Bool.cond_eq_ite, decide_eq_true_eq, hk0, hk1, hk2, h0, h1, if_true, hw]
  cases ((y8 ks k).2.2.1 == 1) <;> cases ((y8 ks k).2.2.2.1 == (y8 ks i).2.2.2.1) <;> rfl
 ·intro again k hk
  rw [hlen] at hk
  unfold Zk
  simp only [Bool.cond_eq_ite, decide_eq_true_eq, if_neg hk]
theorem y3w (q : List Int) (t : List y0) (l : List yd) (cs : List y9) (vs : List ym) (z : Int) (ht : TOk t) (hl : l.length ≤ 1048576) (hc : cs.length ≤ 1048576) : JM (q, t, l, cs, vs, z) = some (kE (z4 t) l cs) := by
 unfold JM qj kE
 have hk := ht.keys
 have e : yG (q, t) = some (z4 t) := zY q t (by have := ht.len; omega) ht.nodes ht.sum
 simp only [e, Option.bind_some]
 generalize z4 t = ks at hk
 refine (y2J (step := j6 _ _) (fun (i n : Int) => (n, i, q, t, l, cs, vs, z, ks)) (ybP ks l cs) Qq (some false) (fun n => some (n == y4b cs)) yL ks (by omega) ?_ ?_ 0).trans ?_
 ·intro again i n h0 h1
  have hw : Go.IntKind.wrap .i64 (i + 1) = i + 1 := w64 (by omega) (by omega)
  unfold j6 ybP Qq
  have hin := fun (k0 : (Bool × Int × Int × List yf × List y0 × List yd × List y9 × List ym × Int × List ya) → Option Bool) k1 m => y3v k0 k1 m i q t l cs vs z ks h0 h1 hk
  obtain ⟨⟨x1, x2, x3, x4, x5⟩, hx⟩ : ∃ x, y8 ks i = x := ⟨_, rfl⟩
  have hx' : ks.getD i.toNat yL = (x1, x2, x3, x4, x5) := hx
  rw [hx']
  rw [hx] at hin
  have e1 := Z5 l x2 (by omega)
  have e2 := y05 cs x4 x5 hc
  simp only [Bool.cond_eq_ite, decide_eq_true_eq, h0, h1, if_true, hw, hx, e1, e2, hin, Option.bind_some]
  by_cases ha : Yp l x2 < 0
  ·simp only [ha, if_true, decide_true, Bool.true_or]
  ·simp only [ha, if_false, decide_false, Bool.false_or]
   by_cases h3 : x3 = 1
   ·have g1 : (x3 == 1) = true := by simp [h3]
    have g2 : (x3 != 1) = false := by simp [h3]
    rw [g1, g2]
    cases (vn cs x4 x5).2 <;> cases Yh (zb x4) (ks.take i.toNat) 0 <;> rfl
   ·have g1 : (x3 == 1) = false := by simpa using h3
    have g2 : (x3 != 1) = true := by simpa using h3
    rw [g1, g2]
    rfl
 ·intro again i n hi
  unfold j6
  simp only [Bool.cond_eq_ite, decide_eq_true_eq, if_neg hi, y8b cs hc, Option.bind_some]
 ·cases Yh (ybP ks l cs) ks 0 <;> rfl
theorem yaH (c : Int) : ∀ (l : List ya) (i : Int) (j : Nat), j < l.length → Yh (zb c) (l.take (j + 1)) i = (Yh (zb c) (l.take j) i || zb c 0 (l.getD j yL))
 | a :: l, i, 0, _ => by simp [Yh, zb]
 | a :: l, i, j + 1, h => by
  have := yaH c l (i + 1) j (by simpa using h)
  rw [List.take_succ_cons, Yh, this, List.take_succ_cons, Yh, List.getD_cons_succ, Bool.or_assoc]
def ybF (s : Int × List Bool) (a : ya) : Int × List Bool := (Qq s.1 a, if (a.2.2.1 == 1) = true then s.2.set a.2.2.2.1.toNat true else s.2)
theorem yhA : ∀ (l : List ya) (s : Int × List Bool), (l.foldl ybF s).1 = l.foldl Qq s.1
 | [], _ => rfl
 | a :: l, s => yhA l (ybF s a)
theorem y3x (q : List Int) (t : List y0) (l : List yd) (cs : List y9) (vs : List ym) (z : Int) (ht : TOk t) (hl : l.length ≤ 1048576) (hc : cs.length = 24) : JT (q, t, l, cs, vs, z) = some (kE (z4 t) l cs) := by
 unfold JT qp kE
 have hk := ht.keys
 have e : Yd (q, t) = some (z4 t) := qv q t (by have := ht.len; omega) ht.nodes ht.sum
 rw [if_pos (by omega), if_pos (Int.le_refl _), if_pos (by omega)]
 simp only [e, Option.bind_some]
 generalize z4 t = ks at hk
 refine (y3q (step := jc _ _) (fun (i : Int) (s : Int × List Bool) => (s.1, (ks.length : Int), i, q, t, l, cs, vs, z, s.2, ks)) (fun i s a => if ybP ks l cs i a = true then .error (some false) else .ok (ybF s a)) (fun s => some (s.1 == y4b cs)) yL ks (by omega) (fun j s => s.2.length = 24 ∧ ∀ c : Nat, c < 24 → s.2.getD c false = Yh (zb (c : Int)) (ks.take j) 0) ?_ ?_ 0 (Int.le_refl _) (0, List.replicate (Int.toNat 24) ycy) ⟨rfl, fun c hc => ?_⟩).trans ?_
 ·rintro again i ⟨n, tk⟩ h0 h1 ⟨hI1, hI2⟩
  simp only at hI1 hI2
  have hw : Go.IntKind.wrap .i64 (i + 1) = i + 1 := w64 (by omega) (by omega)
  obtain ⟨⟨x1, x2, x3, x4, x5⟩, hx⟩ : ∃ x, y8 ks i = x := ⟨_, rfl⟩
  have hx' : ks.getD i.toNat yL = (x1, x2, x3, x4, x5) := hx
  have hgd : ks.getD i.toNat yL = ks.getD i.toNat yL := rfl
  have e1 := VU l x2 (by omega)
  have e2 := y4c cs x4 x5 (by omega)
  have hcell : (vn cs x4 x5).2 = true → 0 ≤ x4 ∧ x4 < 24 := fun h => by
   unfold vn at h
   split at h
   ·rename_i hh
    simp only [Bool.and_eq_true] at hh
    have := zZ.1 hh.1
    omega
   ·cases h
  rw [hx']
  refine ⟨?_, fun s' hs' => ?_⟩
  ·unfold jc ybP ybF Qq
   simp only [Bool.cond_eq_ite, decide_eq_true_eq, h0, h1, if_true, hw, hx, e1, e2, Option.bind_some]
   by_cases ha : Yp l x2 < 0
   ·simp only [ha, if_true, decide_true, Bool.true_or]
   ·simp only [ha, if_false, decide_false, Bool.false_or]
    by_cases h3 : x3 = 1
    ·have g1 : (x3 == 1) = true := by simp [h3]
     have g2 : (x3 != 1) = false := by simp [h3]
     rw [g1, g2]
     cases hok : (vn cs x4 x5).2 with
     | false => rfl
     | true =>
      obtain ⟨b0, b1⟩ := hcell hok
      have b2 : x4 < (tk.length : Int) := by omega
      have hrd : ycz tk x4 = Yh (zb x4) (ks.take i.toNat) 0 := by
       have := hI2 x4.toNat (by omega)
       rw [show ((x4.toNat : Nat) : Int) = x4 by omega] at this
       exact this
      simp only [b0, b2, if_true, hrd]
      cases Yh (zb x4) (ks.take i.toNat) 0 <;> rfl
    ·have g1 : (x3 == 1) = false := by simpa using h3
     have g2 : (x3 != 1) = true := by simpa using h3
     rw [g1, g2]
     rfl
  ·by_cases hb : ybP ks l cs i (x1, x2, x3, x4, x5) = true
   ·rw [if_pos hb] at hs'
    cases hs'
   ·rw [if_neg hb] at hs'
    injection hs' with hs'
    subst hs'
    have hsucc : ∀ c : Int, Yh (zb c) (ks.take (i.toNat + 1)) 0 = (Yh (zb c) (ks.take i.toNat) 0 || zb c 0 (x1, x2, x3, x4, x5)) := fun c => by
     rw [yaH c ks 0 i.toNat (by omega), hx']
    unfold ybF
    simp only
    by_cases h3 : x3 = 1
    ·have g1 : (x3 == 1) = true := by simp [h3]
     simp only [g1, if_true]
     have hok : (vn cs x4 x5).2 = true := by
      unfold ybP at hb
      simp only [g1] at hb
      cases hh : (vn cs x4 x5).2 with
      | true => rfl
      | false =>
       rw [hh] at hb
       simp at hb
     obtain ⟨b0, b1⟩ := hcell hok
     refine ⟨by simpa using hI1, fun c hc => ?_⟩
     rw [hsucc, ← hI2 c hc]
     unfold zb
     simp only [g1, Bool.true_and]
     rw [List.getD_eq_getElem?_getD, List.getD_eq_getElem?_getD]
     by_cases hcx : c = x4.toNat
     ·rw [← hcx, List.getElem?_set_self (by omega)]
      have : (x4 == (c : Int)) = true := by
       simp only [beq_iff_eq]
       omega
      rw [this]
      simp
     ·rw [List.getElem?_set_ne (fun h => hcx h.symm)]
      have : (x4 == (c : Int)) = false := by
       simp only [beq_eq_false_iff_ne, ne_eq]
       omega
      rw [this]
      simp
    ·have g1 : (x3 == 1) = false := by simpa using h3
     simp only [g1, Bool.false_eq_true, if_false]
     refine ⟨hI1, fun c hc => ?_⟩
     rw [hsucc, ← hI2 c hc]
     unfold zb
     simp only [g1, Bool.false_and, Bool.or_false]
 ·rintro again i ⟨n, tk⟩ hi
  unfold jc
  simp only [Bool.cond_eq_ite, decide_eq_true_eq, if_neg hi, y8c cs (by omega), Option.bind_some]
  rw [Bool.beq_comm]
 ·show (List.replicate 24 false).getD c false = _
  rw [List.getD_eq_getElem?_getD, List.getElem?_replicate]
  simp [Yh, hc]
 ·have := y2I (ybP ks l cs) ybF (some false) (fun s : Int × List Bool => some (s.1 == y4b cs)) ks 0 (0, List.replicate (Int.toNat 24) ycy)
  rw [show (0 : Int).toNat = 0 from rfl, List.drop_zero, this, yhA]
  cases Yh (ybP ks l cs) ks 0 <;> rfl
def y0i (z : Int) (_ : Int) (a : yd) : Bool := decide (a.1 ≥ z)
def yU (q : List Int) (t : List y0) (l : List yd) (cs : List y9) (vs : List ym) (z : Int) : Bool :=
 Ys q t && (WH l && (zA cs && (inR z 1 61 && (!Yh (y0i z) l 0 && (vo vs l && kE (z4 t) l cs)))))
theorem y06 (q : List Int) (t : List y0) (l : List yd) (cs : List y9) (vs : List ym) (z : Int) (ht : TOk t) (hl : l.length ≤ 1048576) (hc : cs.length ≤ 1048576) (hv : vs.length ≤ 1048576) (hvn : ∀ v ∈ vs, ByteArray.size v.1 ≤ maxLen) : yE (q, t, l, cs, vs, z) = some (yU q t l cs vs z) := by
 unfold yE qV yU
 refine (zK (step := jM _ _) (fun i => (i, q, t, l, cs, vs, z)) (y0i z) (some false) (some (Ys q t && (WH l && (zA cs && (inR z 1 61 && (vo vs l && kE (z4 t) l cs)))))) YI l (by omega) ?_ ?_).trans ?_
 ·intro again i h0 h1
  have hw : Go.IntKind.wrap .i64 (i + 1) = i + 1 := w64 (by omega) (by omega)
  unfold jM y0i
  have hx : l.getD i.toNat YI = yK l i := rfl
  rw [hx]
  simp only [Bool.cond_eq_ite, decide_eq_true_eq, h0, h1, if_true, hw]
 ·intro again i hi
  unfold jM
  simp only [Bool.cond_eq_ite, decide_eq_true_eq, if_neg hi, V3 q t ht, kC l hl, Jc cs hc, Yr, y8e q t l cs vs z hl hv hvn, y3w q t l cs vs z ht hl hc, Option.bind_some]
  cases Ys q t <;> cases WH l <;> cases zA cs <;> cases inR z 1 61 <;> cases vo vs l <;> rfl
 ·cases Yh (y0i z) l 0 <;> cases Ys q t <;> cases WH l <;> cases zA cs <;> cases inR z 1 61 <;> rfl
theorem y4d (q : List Int) (t : List y0) (l : List yd) (cs : List y9) (vs : List ym) (z : Int) (ht : TOk t) (hl : l.length ≤ 1048576) (hc : cs.length ≤ 1048576) (hv : vs.length ≤ 1048576) (hvn : ∀ v ∈ vs, ByteArray.size v.1 ≤ maxLen) : Yc (q, t, l, cs, vs, z) = some (yU q t l cs vs z) := by
 unfold Yc yU
 simp only [V4 q t ht, y49 l hl, vm cs hc, Z6, Option.bind_some]
 cases Ys q t
 ·rfl
 cases WH l
 ·rfl
 cases hcc : zA cs
 ·rfl
 cases inR z 1 61
 ·rfl
 have hc24 : cs.length = 24 := by
  unfold zA at hcc
  simp only [Bool.and_eq_true, beq_iff_eq] at hcc
  omega
 simp only [Bool.not_true, cond_false, Option.bind_some, Bool.true_and]
 unfold Qi
 refine (zK (step := J2 _ _) (fun i => (l, (l.length : Int), i, q, t, l, cs, vs, z)) (y0i z) (some false) (some (vo vs l && kE (z4 t) l cs)) YI l (by omega) ?_ ?_).trans ?_
 ·intro again i h0 h1
  have hw : Go.IntKind.wrap .i64 (i + 1) = i + 1 := w64 (by omega) (by omega)
  unfold J2 y0i
  have hx : l.getD i.toNat YI = yK l i := rfl
  rw [hx]
  simp only [Bool.cond_eq_ite, decide_eq_true_eq, h0, h1, if_true, hw]
 ·intro again i hi
  unfold J2
  simp only [Bool.cond_eq_ite, decide_eq_true_eq, if_neg hi, y8f q t l cs vs z hl hv hvn, y3x q t l cs vs z ht hl hc24, Option.bind_some]
  cases vo vs l <;> rfl
 ·cases Yh (y0i z) l 0 <;> rfl
end Go.Proofs.YthgdjjdigalckaaGreat.Pl
namespace Go.Proofs.YthgdjjdigalckaaGreat.Pl
open Go.Proofs.YthgdjjdigalckaaGreat.R Go.Proofs.YthgdjjdigalckaaGreat.XT
theorem y1l {A : Type} (p : Int → A → Bool) : ∀ (l : List A) (i : Int), Yh p l i = false → ∀ a ∈ l, ∃ j, p j a = false
 | [], _, _, a, h => by simp at h
 | b :: l, i, h, a, ha => by
  simp only [Yh, Bool.or_eq_false_iff] at h
  rcases List.mem_cons.1 ha with rfl | ha
  ·exact ⟨i, h.1⟩
  ·exact y1l p l (i + 1) h.2 a ha
theorem y71 {s : List ya} (h : qw s = true) : s.length ≤ 60 ∧ ∀ k ∈ s, JD k = true := by
 unfold qw at h
 simp only [Bool.and_eq_true, Bool.not_eq_true', decide_eq_true_eq] at h
 refine ⟨by omega, fun k hk => ?_⟩
 obtain ⟨j, hj⟩ := y1l _ s 0 h.1 k hk
 simpa using hj
theorem y3y {n : List yb} (h : Yk n = true) : n.length ≤ 3 ∧ ∀ s ∈ n, qw s = true := by
 unfold Yk at h
 simp only [Bool.and_eq_true, Bool.not_eq_true', decide_eq_true_eq] at h
 refine ⟨by omega, fun s hs => ?_⟩
 obtain ⟨j, hj⟩ := y1l _ n 0 h.1 s hs
 unfold y0Q at hj
 simp only [Bool.or_eq_false_iff, Bool.not_eq_false'] at hj
 exact hj.1
theorem wd {q : List Int} {t : List y0} (h : Ys q t = true) : q.length = t.length ∧ 1 ≤ t.length ∧ t.length ≤ 20 ∧ ∀ n ∈ t, Yk n = true := by
 unfold Ys at h
 simp only [Bool.and_eq_true, Bool.not_eq_true', decide_eq_true_eq, zZ] at h
 obtain ⟨h1, h2, _, h3, _⟩ := h
 refine ⟨h2, by omega, by omega, fun n hn => ?_⟩
 obtain ⟨j, hj⟩ := y1l _ t 0 h3 n hn
 unfold Qo at hj
 simp only [Bool.or_eq_false_iff, Bool.not_eq_false'] at hj
 have h4 := hj.2
 unfold y9D at h4
 simp only [Bool.and_eq_true] at h4
 exact h4.1
end Go.Proofs.YthgdjjdigalckaaGreat.Pl
namespace Go.Proofs.YthgdjjdigalckaaGreat.Pl
open Go.Proofs.YthgdjjdigalckaaGreat.R Go.Proofs.YthgdjjdigalckaaGreat.XT
theorem y3z {a b : ya} : VS a b = true ↔ a.1 < b.1 ∨ a.1 = b.1 ∧ a.2.1 < b.2.1 := by
 unfold VS
 by_cases h1 : a.1 < b.1
 ·simp [h1]
 ·by_cases h2 : a.1 = b.1 <;> simp [h1, h2]
theorem y8g {a b : ya} : VT a b = true ↔ a.1 = b.1 ∧ a.2.1 = b.2.1 := by simp [VT]
def srt (l : List ya) : Prop := l.Pairwise fun a b => VS a b = true
def ydm : List ya → ya → List ya
 | [], k => [k]
 | c :: r, k => if VS c k = true then c :: ydm r k else k :: (c :: r).filter fun x => !VT x k
theorem yaI (k : ya) : ∀ (l o : List ya), l.foldl (jr k) (true, o) = (true, o ++ l.filter fun x => !VT x k)
 | [], o => by simp
 | c :: l, o => by
  rw [List.foldl_cons, List.filter_cons]
  have e : jr k (true, o) c = (true, if VT c k then o else o ++ [c]) := by simp [jr]
  rw [e, yaI k l]
  cases VT c k <;> simp
def ykw (k : ya) (r : Bool × List ya) : List ya := if r.1 then r.2 else r.2 ++ [k]
theorem y8h (k : ya) : ∀ (l o : List ya), ykw k (l.foldl (jr k) (false, o)) = o ++ ydm l k
 | [], o => by simp [ydm, ykw]
 | c :: l, o => by
  rw [List.foldl_cons, ydm]
  cases hl : VS c k with
  | true =>
   have hs : VT c k = false := by
    cases hs : VT c k with
    | false => rfl
    | true =>
     rw [y3z] at hl
     rw [y8g] at hs
     omega
   have e : jr k (false, o) c = (false, o ++ [c]) := by simp [jr, hl, hs]
   rw [e, y8h k l (o ++ [c])]
   simp
  | false =>
   have e : jr k (false, o) c = (true, if VT c k then o ++ [k] else o ++ [k] ++ [c]) := by simp [jr, hl]
   rw [e, yaI]
   simp only [ykw, if_true, List.filter_cons, Bool.false_eq_true, if_false]
   cases VT c k <;> simp
theorem y4V (l : List ya) (k : ya) : JC l k = ydm l k := by
 exact (y8h k l []).trans (List.nil_append _)
theorem y72 {k : ya} : ∀ {l : List ya} {x : ya}, x ∈ ydm l k → x = k ∨ x ∈ l
 | [], x, h => by simpa [ydm] using h
 | c :: r, x, h => by
  rw [ydm] at h
  split at h
  ·rcases List.mem_cons.1 h with rfl | h
   ·exact .inr (by simp)
   ·rcases y72 h with h | h
    ·exact .inl h
    ·exact .inr (by simp [h])
  ·rcases List.mem_cons.1 h with rfl | h
   ·exact .inl rfl
   ·exact .inr (List.mem_filter.1 h).1
theorem yaJ (k : ya) : ∀ (l : List ya), srt l → srt (ydm l k)
 | [], _ => by simp [srt, ydm]
 | c :: r, h => by
  obtain ⟨h1, h2⟩ := List.pairwise_cons.1 h
  rw [ydm]
  split
  ·rename_i hl
   refine List.pairwise_cons.2 ⟨fun y hy => ?_, yaJ k r h2⟩
   rcases y72 hy with rfl | hy
   ·exact hl
   ·exact h1 y hy
  ·rename_i hl
   refine List.pairwise_cons.2 ⟨fun y hy => ?_, List.Pairwise.filter _ h⟩
   obtain ⟨hy, hs⟩ := List.mem_filter.1 hy
   have hs' : ¬ (y.1 = k.1 ∧ y.2.1 = k.2.1) := fun e => by
    rw [y8g.2 e] at hs
    cases hs
   rw [y3z] at hl ⊢
   rcases List.mem_cons.1 hy with rfl | hy
   ·omega
   ·have := y3z.1 (h1 y hy)
    omega
theorem y4W {l : List ya} (k : ya) (h : srt l) : srt (JC l k) := by rw [y4V]; exact yaJ k l h
theorem y4X {l : List ya} {k x : ya} (h : x ∈ JC l k) : x = k ∨ x ∈ l := by rw [y4V] at h; exact y72 h
theorem y4Y : ∀ (b a : List ya), srt a → srt (wL a b)
 | [], _, h => h
 | c :: b, a, h => y4Y b _ (y4W c h)
theorem y4Z : ∀ (b a : List ya) {x : ya}, x ∈ wL a b → x ∈ a ∨ x ∈ b
 | [], _, _, h => .inl h
 | c :: b, a, x, h => by
  rcases y4Z b (JC a c) h with h | h
  ·rcases y4X h with rfl | h
   ·exact .inr (by simp)
   ·exact .inl h
  ·exact .inr (by simp [h])
theorem yaK : ∀ (l s : List ya), l.foldl vj s = s ++ l.filter fun c => !decide (c.2.2.1 = 0)
 | [], s => by simp
 | c :: l, s => by
  rw [List.foldl_cons, yaK l, List.filter_cons]
  unfold vj
  by_cases h : c.2.2.1 = 0 <;> simp [h]
theorem yaL (l : List ya) : y3n l = l.filter fun c => !decide (c.2.2.1 = 0) := by
 have := yaK l []
 simpa [y3n] using this
theorem y8i {l : List ya} (h : srt l) : srt (y3n l) := by rw [yaL]; exact List.Pairwise.filter _ h
theorem y8j {l : List ya} {x : ya} (h : x ∈ y3n l) : x ∈ l := by rw [yaL] at h; exact (List.mem_filter.1 h).1
theorem y8k : ∀ (n : List yb) (s : List ya), srt s → srt (n.foldl wL s)
 | [], _, h => h
 | c :: n, s, h => y8k n _ (y4Y c s h)
theorem y8l : ∀ (n : List yb) (s : List ya) {x : ya}, x ∈ n.foldl wL s → x ∈ s ∨ ∃ c ∈ n, x ∈ (show List ya from c)
 | [], _, _, h => .inl h
 | c :: n, s, x, h => by
  rcases y8l n (wL s c) h with h | ⟨d, hd, hx⟩
  ·rcases y4Z c s h with h | h
   ·exact .inl h
   ·exact .inr ⟨c, by simp, h⟩
  ·exact .inr ⟨d, by simp [hd], hx⟩
theorem ydn (n : List yb) : srt (yZ n) := y8i (y8k n [] List.Pairwise.nil)
theorem ydo {n : List yb} {x : ya} (h : x ∈ yZ n) : ∃ c ∈ n, x ∈ (show List ya from c) := by
 rcases y8l n [] (y8j h) with h | h
 ·cases h
 ·exact h
theorem y0R {A : Type} {p : Int → A → Bool} (da : A) : ∀ (l : List A) (i : Int), (∀ j : Nat, j < l.length → p (i + j) (l.getD j da) = false) → Yh p l i = false
 | [], _, _ => rfl
 | a :: l, i, h => by
  rw [Yh, Bool.or_eq_false_iff]
  refine ⟨by simpa using h 0 (by simp), y0R da l (i + 1) fun j hj => ?_⟩
  have := h (j + 1) (by simpa using hj)
  rw [List.getD_cons_succ] at this
  rw [show i + 1 + (j : Int) = i + ((j + 1 : Nat) : Int) by omega]
  exact this
theorem y0j {A : Type} (da : A) (l : List A) (j : Nat) (h : j < l.length) : l.getD j da = l[j] := by simp [List.getD, h]
theorem ydp {l : List ya} (h : srt l) : Yh (wz l) l 0 = false := by
 refine y0R yL l 0 fun j hj => ?_
 unfold wz
 cases j with
 | zero => simp
 | succ j =>
  have h2 := List.pairwise_iff_getElem.1 h j (j + 1) (by omega) hj (by omega)
  rw [show ((0 : Int) + ((j + 1 : Nat) : Int) - 1).toNat = j by omega, y0j _ _ _ (by omega), y0j _ _ _ hj, h2]
  simp
theorem yrR {l : List ya} (h : srt l) (hk : ∀ k ∈ l, JD k = true) (hl : l.length ≤ 60) : qw l = true := by
 unfold qw
 rw [ydp h, y0R yL l 0 fun j hj => by
  rw [y0j _ _ _ hj, hk _ (List.getElem_mem hj)]
  rfl]
 simp
 omega
def zq (l : List ya) : List yb := if l.length = 0 then [] else [l]
theorem ybG {l : List ya} (h : srt l) (hk : ∀ k ∈ l, JD k = true) (hl : l.length ≤ 8) : Yk (zq l) = true := by
 unfold zq
 split
 ·rfl
 ·rename_i h0
  have h1 := yrR h hk (by omega)
  have h2 : y04 0 l = (List.length l : Int) := by
   unfold y04
   rw [w64 (by omega) (by omega)]
   omega
  unfold Yk
  simp only [Yh, y0Q, h1, Bool.not_true, Bool.false_or, Bool.or_false, List.foldl_cons, List.foldl_nil, h2, List.length_cons, List.length_nil]
  rw [show (((List.length l : Nat) : Int) == 0) = false from beq_eq_false_iff_ne.2 (by omega)]
  simp
  omega
end Go.Proofs.YthgdjjdigalckaaGreat.Pl
namespace Go.Proofs.YthgdjjdigalckaaGreat.Pl
open Go.Proofs.YthgdjjdigalckaaGreat.R Go.Proofs.YthgdjjdigalckaaGreat.XT
theorem y2K {T A R : Type} {step : (T → Option R) → T → Option R} (da : A) (l : List A) (St0 : Int → T) (St1 : Int → List A → T) (k0 : Option R) (k1 : List A → Option R) (hl : l.length ≤ 1099511627776)
  (h0 : ∀ again i, 0 ≤ i → i < ((List.length l : Nat) : Int) → step again (St0 i) = again (St1 (i + 1) [l.getD i.toNat da]))
  (h1 : ∀ again i o, 0 ≤ i → i < ((List.length l : Nat) : Int) → List.length o ≤ List.length l → step again (St1 i o) = again (St1 (i + 1) (o ++ [l.getD i.toNat da])))
  (hd0 : ∀ again i, ¬ i < ((List.length l : Nat) : Int) → step again (St0 i) = k0)
  (hd1 : ∀ again i o, ¬ i < ((List.length l : Nat) : Int) → step again (St1 i o) = k1 o) : zE step zW (St0 0) = if l.length = 0 then k0 else k1 l := by
 have key : ∀ (m : Nat) (i : Int), 0 ≤ i → i ≤ l.length → l.length - i.toNat < m → zE step m (St1 i (l.take i.toNat)) = k1 l := by
  intro m
  induction m with
  | zero => intro i _ _ h; omega
  | succ m ih =>
   intro i i0 i1 hm
   rw [zE]
   by_cases hi : i < ((List.length l : Nat) : Int)
   ·have e1 : (i + 1).toNat = i.toNat + 1 := by omega
    have e2 : l.take i.toNat ++ [l.getD i.toNat da] = l.take (i + 1).toNat := by
     rw [e1, List.take_succ_eq_append_getElem (by omega), y6U da l i i0 hi]
    rw [h1 _ i _ i0 hi (by rw [List.length_take]; omega), e2]
    exact ih (i + 1) (by omega) (by omega) (by omega)
   ·rw [hd1 _ i _ hi, List.take_of_length_le (by omega)]
 have hF : zW = (zW - 1) + 1 := by
  have := y0e
  omega
 rw [hF, zE]
 by_cases h : l.length = 0
 ·rw [if_pos h, hd0 _ 0 (by omega)]
 ·rw [if_neg h, h0 _ 0 (Int.le_refl _) (by omega)]
  have e : [l.getD (0 : Int).toNat da] = l.take (0 + 1 : Int).toNat := by
   cases l with
   | nil => simp at h
   | cons a l => rfl
  rw [e]
  exact key _ _ (by omega) (by omega) (by
   have := y0e
   omega)
theorem yss {A : Type} (a : A) (k : Nat) (h : k < 140737488355328) : List.length [a] * k < 140737488355328 := by
 simp only [List.length_cons, List.length_nil]
 omega
end Go.Proofs.YthgdjjdigalckaaGreat.Pl
namespace Go.Proofs.YthgdjjdigalckaaGreat.Pl
open Go.Proofs.YthgdjjdigalckaaGreat.R Go.Proofs.YthgdjjdigalckaaGreat.XT
def y21 (n : y0) : Prop := List.length n ≤ 1048576 ∧ ∀ b ∈ (show List yb from n), List.length b ≤ 1048576
theorem V5 (n : List yb) (h : y21 n) : ze n = some n := by
 have h1 : n.length ≤ 1048576 := h.1
 have e : ze n = if n.length = 0 then some ([] : List yb) else some n := by
  unfold ze qO
  refine y2K (step := Yw _ _) z6 n (fun i => Sum.inl (i, n)) (fun i o => Sum.inr (i, n, o)) _ (fun o => some o) (by omega) ?_ ?_ ?_ ?_
  ·intro again i i0 i1
   have hw : Go.IntKind.wrap .i64 (i + 1) = i + 1 := w64 (by omega) (by omega)
   have hr : List.length (yp n i) ≤ 1048576 := h.2 _ (zi z6 n i i0 i1)
   simp only [Yw, Bool.cond_eq_ite, decide_eq_true_eq, i0, i1, if_true, hw]
   rw [if_pos (by simp only [List.length_nil]; omega), if_pos (yss _ _ (by decide))]
   rfl
  ·intro again i o i0 i1 i2
   have hw : Go.IntKind.wrap .i64 (i + 1) = i + 1 := w64 (by omega) (by omega)
   have hr : List.length (yp n i) ≤ 1048576 := h.2 _ (zi z6 n i i0 i1)
   simp only [Yw, Bool.cond_eq_ite, decide_eq_true_eq, i0, i1, if_true, hw]
   rw [if_pos (by simp only [List.length_nil]; omega), if_pos (by simp only [List.length_cons, List.length_nil]; omega)]
   rfl
  ·intro again i hi
   simp only [Yw, Bool.cond_eq_ite, decide_eq_true_eq, if_neg hi]
  ·intro again i o hi
   simp only [Yw, Bool.cond_eq_ite, decide_eq_true_eq, if_neg hi]
 rw [e]
 split
 ·rename_i h0
  rw [List.length_eq_zero_iff.1 h0]
 ·rfl
theorem Kc (l : List ya) (h : l.length ≤ 1048576) : zU l = some l := by
 unfold zU
 rw [if_pos (by simp only [List.length_nil]; omega)]
 rfl
theorem Kd (n : List yb) (h : y21 n) : zt n = some n := by
 have h1 : n.length ≤ 1048576 := h.1
 have e : zt n = if n.length = 0 then some ([] : List yb) else some n := by
  unfold zt Vn
  refine y2K (step := Y5 _ _) z6 n (fun i => Sum.inl (n, ((List.length n : Nat) : Int), i)) (fun i o => Sum.inr (n, ((List.length n : Nat) : Int), i, o)) _ (fun o => some o) (by omega) ?_ ?_ ?_ ?_
  ·intro again i i0 i1
   have hw : Go.IntKind.wrap .i64 (i + 1) = i + 1 := w64 (by omega) (by omega)
   have hr : List.length (yp n i) ≤ 1048576 := h.2 _ (zi z6 n i i0 i1)
   simp only [Y5, Bool.cond_eq_ite, decide_eq_true_eq, i0, i1, if_true, hw, Kc _ hr, Option.bind_some]
   rw [if_pos (yss _ _ (by decide))]
   rfl
  ·intro again i o i0 i1 i2
   have hw : Go.IntKind.wrap .i64 (i + 1) = i + 1 := w64 (by omega) (by omega)
   have hr : List.length (yp n i) ≤ 1048576 := h.2 _ (zi z6 n i i0 i1)
   simp only [Y5, Bool.cond_eq_ite, decide_eq_true_eq, i0, i1, if_true, hw, Kc _ hr, Option.bind_some]
   rw [if_pos (by simp only [List.length_cons, List.length_nil]; omega)]
   rfl
  ·intro again i hi
   simp only [Y5, Bool.cond_eq_ite, decide_eq_true_eq, if_neg hi]
  ·intro again i o hi
   simp only [Y5, Bool.cond_eq_ite, decide_eq_true_eq, if_neg hi]
 rw [e]
 split
 ·rename_i h0
  rw [List.length_eq_zero_iff.1 h0]
 ·rfl
theorem kF (q : List yf) (t : List y0) (hq : q.length ≤ 1048576) (ht : t.length ≤ 1048576) (hn : ∀ n ∈ t, y21 n) : YQ (q, t) = some (q, t) := by
 have e : YQ (q, t) = if t.length = 0 then some (q, ([] : List y0)) else some (q, t) := by
  unfold YQ qP
  simp only [List.length_nil, List.nil_append]
  rw [if_pos (by omega)]
  refine y2K (step := Yx _ _) yB t (fun i => Sum.inl (i, q, t, q)) (fun i o => Sum.inr (i, q, t, q, o)) _ (fun o => some (q, o)) (by omega) ?_ ?_ ?_ ?_
  ·intro again i i0 i1
   have hw : Go.IntKind.wrap .i64 (i + 1) = i + 1 := w64 (by omega) (by omega)
   have hr : y21 (yg t i) := hn _ (zi yB t i i0 i1)
   simp only [Yx, Bool.cond_eq_ite, decide_eq_true_eq, i0, i1, if_true, hw, V5 _ hr, Option.bind_some]
   rw [if_pos (yss _ _ (by decide))]
   rfl
  ·intro again i o i0 i1 i2
   have hw : Go.IntKind.wrap .i64 (i + 1) = i + 1 := w64 (by omega) (by omega)
   have hr : y21 (yg t i) := hn _ (zi yB t i i0 i1)
   simp only [Yx, Bool.cond_eq_ite, decide_eq_true_eq, i0, i1, if_true, hw, V5 _ hr, Option.bind_some]
   rw [if_pos (by simp only [List.length_cons, List.length_nil]; omega)]
   rfl
  ·intro again i hi
   simp only [Yx, Bool.cond_eq_ite, decide_eq_true_eq, if_neg hi]
  ·intro again i o hi
   simp only [Yx, Bool.cond_eq_ite, decide_eq_true_eq, if_neg hi]
 rw [e]
 split
 ·rename_i h0
  rw [List.length_eq_zero_iff.1 h0]
 ·rfl
theorem qx (l : List yf) (h : l.length ≤ 1048576) : Zt l = some l := by
 unfold Zt
 rw [if_pos (by simp only [List.length_nil]; omega)]
 rfl
theorem Ke (q : List yf) (t : List y0) (hq : q.length ≤ 1048576) (ht : t.length ≤ 1048576) (hn : ∀ n ∈ t, y21 n) : zn (q, t) = some (q, t) := by
 have e : zn (q, t) = if t.length = 0 then some (q, ([] : List y0)) else some (q, t) := by
  unfold zn Vo
  simp only [qx q hq, Option.bind_some]
  refine y2K (step := Y6 _ _) yB t (fun i => Sum.inl (t, ((List.length t : Nat) : Int), i, q)) (fun i o => Sum.inr (t, ((List.length t : Nat) : Int), i, q, o)) _ (fun o => some (q, o)) (by omega) ?_ ?_ ?_ ?_
  ·intro again i i0 i1
   have hw : Go.IntKind.wrap .i64 (i + 1) = i + 1 := w64 (by omega) (by omega)
   have hr : y21 (yg t i) := hn _ (zi yB t i i0 i1)
   simp only [Y6, Bool.cond_eq_ite, decide_eq_true_eq, i0, i1, if_true, hw, Kd _ hr, Option.bind_some]
   rw [if_pos (yss _ _ (by decide))]
   rfl
  ·intro again i o i0 i1 i2
   have hw : Go.IntKind.wrap .i64 (i + 1) = i + 1 := w64 (by omega) (by omega)
   have hr : y21 (yg t i) := hn _ (zi yB t i i0 i1)
   simp only [Y6, Bool.cond_eq_ite, decide_eq_true_eq, i0, i1, if_true, hw, Kd _ hr, Option.bind_some]
   rw [if_pos (by simp only [List.length_cons, List.length_nil]; omega)]
   rfl
  ·intro again i hi
   simp only [Y6, Bool.cond_eq_ite, decide_eq_true_eq, if_neg hi]
  ·intro again i o hi
   simp only [Y6, Bool.cond_eq_ite, decide_eq_true_eq, if_neg hi]
 rw [e]
 split
 ·rename_i h0
  rw [List.length_eq_zero_iff.1 h0]
 ·rfl
theorem Jd (q : List yf) (t : List y0) (l : List yd) (cs : List y9) (vs : List ym) (z : Int) (h : small q t l cs vs) : yl (q, t, l, cs, vs, z) = some (q, t, l, cs, vs, z) := by
 obtain ⟨h1, h2, h3, h4, h5, h6⟩ := h
 unfold yl zR
 simp only [kF q t h1 h2 (fun n hn => wN h3 hn), Option.bind_some, List.length_nil, List.nil_append]
 rw [if_pos (by omega), if_pos (by omega)]
 simp only [Option.bind_some]
 rw [if_pos (by omega)]
theorem Kf (q : List yf) (t : List y0) (l : List yd) (cs : List y9) (vs : List ym) (z : Int) (h : small q t l cs vs) : yY (q, t, l, cs, vs, z) = some (q, t, l, cs, vs, z) := by
 obtain ⟨h1, h2, h3, h4, h5, h6⟩ := h
 unfold yY WE zv
 simp only [Ke q t h1 h2 (fun n hn => wN h3 hn), Option.bind_some, List.length_nil, List.nil_append]
 rw [if_pos (by omega)]
 simp only [Option.bind_some]
 rw [if_pos (by omega)]
 simp only [Option.bind_some]
 rw [if_pos (by omega)]
end Go.Proofs.YthgdjjdigalckaaGreat.Pl
namespace Go.Proofs.YthgdjjdigalckaaGreat.Pl
open Go.Proofs.YthgdjjdigalckaaGreat.R Go.Proofs.YthgdjjdigalckaaGreat.XT
def yaM (t : List y0) (l : List yd) (blk id : Int) : Bool × ya := y1j (y1I (z4 t) blk) ((y3p l id).drop 1)
theorem y9F (ks : List ya) : y1j ks [] = (false, (0, 0, 0, 0, 0)) := by
 unfold y1j
 induction ks with
 | nil => rfl
 | cons a ks ih =>
  rw [List.foldl_cons, show y3s [] (false, ((0 : Int), (0 : Int), (0 : Int), (0 : Int), (0 : Int))) a = (false, (0, 0, 0, 0, 0)) by
   unfold y3s yrQ Y7
   simp]
  exact ih
theorem y0S (q : List Int) (t : List y0) (l : List yd) (blk id : Int) (ht : TOk t) (hl : l.length ≤ 1048576) : YM (q, t, l, blk, id) = some (ans (yaM t l blk id)) := by
 unfold YM yaM
 have hp := y4T l id hl
 simp only [y03 l id hl, Option.bind_some]
 generalize y3p l id = p at hp
 cases p with
 | nil =>
  rw [show List.drop 1 ([] : List Int) = [] from rfl, y9F]
  rfl
 | cons a p =>
  have h1 : (((a :: p).length : Int) == 0) = false := by
   simp only [List.length_cons, beq_eq_false_iff_ne, ne_eq]
   omega
  have h2 : (1 : Int) ≤ ((a :: p).length : Int) := by
   simp only [List.length_cons]
   omega
  have e : ZP (q, t, blk, List.drop (Int.toNat (1 : Int)) (List.take (Int.toNat ((a :: p).length : Int)) (a :: p))) = some (ans (y1j (y1I (z4 t) blk) (List.drop 1 (a :: p)))) := by
   rw [show Int.toNat ((a :: p).length : Int) = (a :: p).length by omega, List.take_length]
   exact y1J q t blk _ ht (by simp only [List.length_drop]; omega)
  simp only [h1, cond_false, h2, Int.le_refl, if_true, e, Option.bind_some]
  rw [if_pos (by omega)]
def y8m (vs : List ym) (id : Int) : Bool := !Yh (WI id) vs 0
theorem Qr (q : List Int) (t : List y0) (l : List yd) (cs : List y9) (vs : List ym) (z id : Int) (hv : vs.length ≤ 1048576) : k6 (q, t, l, cs, vs, z, id) = some (y8m vs id) := by
 unfold k6 y0K y8m
 refine (zK (step := W9 _ _) (fun i => (id, i, q, t, l, cs, vs, z)) (WI id) (some false) (some true) WM vs (by omega) ?_ ?_).trans ?_
 ·intro again i h0 h1
  have hw : Go.IntKind.wrap .i64 (i + 1) = i + 1 := w64 (by omega) (by omega)
  unfold W9 WI
  have hx : vs.getD i.toNat WM = yq vs i := rfl
  rw [hx]
  simp only [Bool.cond_eq_ite, decide_eq_true_eq, h0, h1, if_true, hw]
 ·intro again i hi
  unfold W9
  simp only [Bool.cond_eq_ite, decide_eq_true_eq, if_neg hi]
 ·cases Yh (WI id) vs 0 <;> rfl
def Kg (q : List Int) (sp : Int) : Nat → Int
 | 0 => -1
 | n + 1 => if q.getD n 0 ≤ sp then (n : Int) else Kg q sp n
def wO (blk age : Int) : Int := Go.IntKind.wrap .i64 (Go.IntKind.wrap .i64 ((64 : Int) * blk) + age)
theorem y50 (q : List Int) (sp : Int) : ∀ n, -1 ≤ Kg q sp n ∧ Kg q sp n < n
 | 0 => by simp [Kg]
 | n + 1 => by
  have := y50 q sp n
  rw [Kg]
  split <;> omega
theorem Qs (q : List Int) (t : List y0) (blk age : Int) (hq : q.length ≤ 1048576) : jl (q, t, blk, age) = some (Kg q (wO blk age) q.length) := by
 unfold jl qk
 have h := Yo (step := wh (fun x2 => some x2)) (fun u : wg => q.length - u.2.2.2.1.toNat) (fun u => ∃ n : Nat, n ≤ q.length ∧ u = (blk, age, Kg q (wO blk age) n, (n : Int), q, t)) (fun _ => some (Kg q (wO blk age) q.length)) ?_ (blk, age, -1, 0, q, t) ⟨0, by omega, rfl⟩ (by simp; omega)
 ·exact h
 ·rintro again u ⟨n, hn, rfl⟩ hag
  have hw : Go.IntKind.wrap .i64 ((n : Int) + 1) = ((n + 1 : Nat) : Int) := by rw [w64 (by omega) (by omega)]; omega
  unfold wh Jj
  have h0 : 0 ≤ (n : Int) := by omega
  by_cases hlt : (n : Int) < (q.length : Int)
  ·have hx : zC q (n : Int) = q.getD n 0 := rfl
   simp only [Bool.cond_eq_ite, decide_eq_true_eq, hlt, h0, if_true, Option.bind_some, hw, hx]
   have e := hag (blk, age, Kg q (wO blk age) (n + 1), ((n + 1 : Nat) : Int), q, t) ⟨n + 1, by omega, rfl⟩ (by simp only; omega)
   rw [Kg] at e
   unfold wO at e ⊢
   split
   ·rename_i hc
    rw [if_pos hc] at e
    exact e
   ·rename_i hc
    rw [if_neg hc] at e
    exact e
  ·rw [show n = q.length by omega]
   simp
theorem y3A (q : List Int) (t : List y0) (blk age : Int) (hq : q.length ≤ 1048576) : JU (q, t, blk, age) = some (Kg q (wO blk age) q.length) := by
 unfold JU qq
 rw [w64 (n := (q.length : Int) - 1) (by omega) (by omega)]
 have h := Yo (step := wm (fun x2 => some x2) (fun x3 => some (-1 : Int))) (fun u : wl => (u.2.2.1 + 1).toNat) (fun u => ∃ n : Nat, n ≤ q.length ∧ u = (blk, age, (n : Int) - 1, q, t)) (fun u => some (Kg q (wO blk age) (u.2.2.1 + 1).toNat)) ?_ (blk, age, (q.length : Int) - 1, q, t) ⟨q.length, by omega, rfl⟩ (by simp; omega)
 ·rw [h]
  simp only
  rw [show ((q.length : Int) - 1 + 1).toNat = q.length by omega]
 ·rintro again u ⟨n, hn, rfl⟩ hag
  unfold wm YZ
  cases n with
  | zero => simp [Kg]
  | succ n =>
   have e1 : ((n + 1 : Nat) : Int) - 1 = (n : Int) := by omega
   have hw : Go.IntKind.wrap .i64 ((n : Int) - 1) = (n : Int) - 1 := w64 (by omega) (by omega)
   have hx : zC q (n : Int) = q.getD n 0 := rfl
   have h0 : 0 ≤ (n : Int) := by omega
   have h1 : (n : Int) < (q.length : Int) := by omega
   rw [e1]
   simp only [Bool.cond_eq_ite, decide_eq_true_eq, ge_iff_le, h0, h1, if_true, Option.bind_some, hw, hx]
   have e := hag (blk, age, (n : Int) - 1, q, t) ⟨n, by omega, rfl⟩ (by simp only; omega)
   rw [e]
   simp only
   rw [show ((n : Int) - 1 + 1).toNat = n by omega, show ((n : Int) + 1).toNat = n + 1 by omega, Kg]
   unfold wO
   split <;> rfl
abbrev Ans : Type := Int × Int × Int × Int × Int × Bool
def y9G : Ans := (0, 0, 0, 0, 0, false)
def atP (blk age : Int) (a : ya) : Bool := a.1 == blk && a.2.1 == age
def y8n (a : ya) : Ans := (a.1, a.2.1, a.2.2.1, a.2.2.2.1, a.2.2.2.2, true)
def Vx (l : List ya) (blk age : Int) : Ans := if Y7 (atP blk age) l 0 < 0 then y9G else y8n (y8 l (Y7 (atP blk age) l 0))
theorem y0T (l : List ya) (blk age : Int) (hl : l.length ≤ 1073741824) : wG (l, blk, age) = some (Vx l blk age) := by
 unfold wG QZ Vx
 refine (ZD (step := JO _ _) (fun i => (l, blk, age, i, 0, 0, 0, 0, 0)) (atP blk age) (fun i => some (y8n (y8 l i))) (some y9G) yL l (by omega) ?_ ?_).trans ?_
 ·intro again i h0 h1
  have hw : Go.IntKind.wrap .i64 (i + 1) = i + 1 := w64 (by omega) (by omega)
  unfold JO atP y8n
  obtain ⟨⟨x1, x2, x3, x4, x5⟩, hx⟩ : ∃ x, y8 l i = x := ⟨_, rfl⟩
  have hx' : l.getD i.toNat yL = (x1, x2, x3, x4, x5) := hx
  rw [hx']
  simp only [Bool.cond_eq_ite, decide_eq_true_eq, h0, h1, if_true, hw, hx]
  cases (x1 == blk) <;> cases (x2 == age) <;> rfl
 ·intro again i hi
  unfold JO
  simp only [Bool.cond_eq_ite, decide_eq_true_eq, if_neg hi]
  rfl
 ·split <;> rfl
theorem y73 (l : List ya) (blk age : Int) (hl : l.length ≤ 1073741824) : kW (l, blk, age) = some (Vx l blk age) := by
 unfold kW y02 Vx
 refine (ZD (step := JV _ _) (fun i => (blk, age, l, (l.length : Int), i, 0, 0, 0, 0, 0)) (atP blk age) (fun i => some (y8n (y8 l i))) (some y9G) yL l (by omega) ?_ ?_).trans ?_
 ·intro again i h0 h1
  have hw : Go.IntKind.wrap .i64 (i + 1) = i + 1 := w64 (by omega) (by omega)
  unfold JV atP y8n
  obtain ⟨⟨x1, x2, x3, x4, x5⟩, hx⟩ : ∃ x, y8 l i = x := ⟨_, rfl⟩
  have hx' : l.getD i.toNat yL = (x1, x2, x3, x4, x5) := hx
  rw [hx']
  simp only [Bool.cond_eq_ite, decide_eq_true_eq, h0, h1, if_true, hw, hx]
  cases (x1 == blk) <;> cases (x2 == age) <;> rfl
 ·intro again i hi
  unfold JV
  simp only [Bool.cond_eq_ite, decide_eq_true_eq, if_neg hi]
  rfl
 ·split <;> rfl
def y0U (n : List yb) (blk age : Int) : Nat → Ans
 | 0 => y9G
 | m + 1 => if (Vx (n.getD m z6) blk age).2.2.2.2.2 = true then (if ((Vx (n.getD m z6) blk age).2.2.1 == 0) = true then y9G else Vx (n.getD m z6) blk age) else y0U n blk age m
theorem y4e (n : List yb) (blk age : Int) (hn : n.length ≤ 1048576) (hs : ∀ s ∈ n, List.length s ≤ 1073741824) : W3 (n, blk, age) = some (y0U n blk age n.length) := by
 unfold W3 qZ
 rw [w64 (n := (n.length : Int) - 1) (by omega) (by omega)]
 refine (Yo (step := W2 _ _) (fun u : W1 => (u.2.2.1 + 1).toNat) (fun u => ∃ m : Nat, m ≤ n.length ∧ u = (blk, age, (m : Int) - 1, n, 0, 0, 0, 0, 0)) (fun u => some (y0U n blk age (u.2.2.1 + 1).toNat)) ?_ (blk, age, (n.length : Int) - 1, n, 0, 0, 0, 0, 0) ⟨n.length, by omega, rfl⟩ (by simp; omega)).trans ?_
 ·rintro again u ⟨m, hm, rfl⟩ hag
  unfold W2
  cases m with
  | zero => rfl
  | succ m =>
   have e1 : ((m + 1 : Nat) : Int) - 1 = (m : Int) := by omega
   have hw : Go.IntKind.wrap .i64 ((m : Int) - 1) = (m : Int) - 1 := w64 (by omega) (by omega)
   have h0 : 0 ≤ (m : Int) := by omega
   have h1 : (m : Int) < (n.length : Int) := by omega
   have e := y0T (yp n (m : Int)) blk age (hs _ (zi z6 n (m : Int) h0 h1))
   have hx : n.getD m z6 = yp n (m : Int) := rfl
   rw [e1]
   simp only [Bool.cond_eq_ite, decide_eq_true_eq, ge_iff_le, h0, h1, if_true, Option.bind_some, hw, e]
   have e' := hag (blk, age, (m : Int) - 1, n, 0, 0, 0, 0, 0) ⟨m, by omega, rfl⟩ (by simp only; omega)
   rw [e', show ((m : Int) + 1).toNat = m + 1 by omega, y0U, hx]
   simp only
   rw [show ((m : Int) - 1 + 1).toNat = m by omega]
   obtain ⟨r1, r2, r3, r4, r5, r6⟩ := Vx (yp n (m : Int)) blk age
   cases r6
   ·rfl
   ·cases h3 : (r3 == 0) <;> simp [h3, y9G]
 ·simp only
  rw [show ((n.length : Int) - 1 + 1).toNat = n.length by omega]
def kq (q : List Int) (t : List y0) (blk age : Int) : Ans :=
 if inR (Kg q (wO blk age) q.length) 0 ((t.length : Int) - 1) = true then y0U (yg t (Kg q (wO blk age) q.length)) blk age (yg t (Kg q (wO blk age) q.length)).length else y9G
theorem kG (q : List Int) (t : List y0) (blk age : Int) (ht : TOk t) (hq : q.length ≤ 1048576) : ZO (q, t, blk, age) = some (kq q t blk age) := by
 unfold ZO kq
 have hlen := ht.len
 rw [w64 (n := (t.length : Int) - 1) (by omega) (by omega)]
 simp only [Qs q t blk age hq, Yr, Option.bind_some]
 generalize Kg q (wO blk age) q.length = i
 by_cases h : inR i 0 ((t.length : Int) - 1) = true
 ·obtain ⟨h0, h1⟩ := zZ.1 h
  have hmem : yg t i ∈ t := zi yB t i h0 (by omega)
  obtain ⟨a1, a2⟩ := ht.node hmem
  have e := y4e (yg t i) blk age a1 (fun s hs => by have := a2 s hs; omega)
  rw [h, if_pos h0, if_pos (by omega), e]
  rfl
 ·have : inR i 0 ((t.length : Int) - 1) = false := by simpa using h
  rw [this]
  rfl
end Go.Proofs.YthgdjjdigalckaaGreat.Pl
namespace Go.Proofs.YthgdjjdigalckaaGreat.Pl
open Go.Proofs.YthgdjjdigalckaaGreat.R Go.Proofs.YthgdjjdigalckaaGreat.XT
structure NS (n : List yb) : Prop where
 len : n.length ≤ 1000
 sum : wK vv n ≤ 1000
theorem NS.mem {n : List yb} (h : NS n) {s : yb} (hs : s ∈ n) : List.length s ≤ 1000 := by
 have h1 := (QH kp hs).1
 have h2 := h.sum
 have h3 : vv s = (List.length s : Int) := rfl
 omega
theorem NS.q {n : List yb} (h : NS n) : y21 n := ⟨Nat.le_trans h.len (by decide), fun b hb => Nat.le_trans (h.mem hb) (by decide)⟩
theorem NS.keys {n : List yb} (h : NS n) : (yZ n).length ≤ 1000 := by
 have h1 := vk n
 have h2 := h.sum
 omega
def WJ (n : List yb) : yb := n.getD (n.length - 1) z6
theorem y8o {n : List yb} (h : 0 < n.length) : WJ n ∈ n := by
 unfold WJ
 rw [y0j _ _ _ (by omega)]
 exact List.getElem_mem _
def WK (n : List yb) (k : ya) : List yb :=
 if 0 < n.length ∧ (List.length (WJ n) < 4 ∨ (Vx (WJ n) k.1 k.2.1).2.2.2.2.2 = true) then n.set (n.length - 1) (JC (WJ n) k) else n ++ [[k]]
def jt (n : List yb) (k : ya) : List ya := y3n (JC (yZ n) k)
def zr (n : List yb) (k : ya) : List yb × Bool :=
 if Yk (WK n k) = true then (WK n k, true) else if (jt n k).length > 8 then (n, false) else if Yk (zq (jt n k)) = true then (zq (jt n k), true) else (n, false)
theorem ydq (l : List ya) : (y3n l).length ≤ l.length := by
 have := y3o l []
 simpa [y3n] using this
theorem y0V (n : List yb) (k : ya) : (jt n k).length ≤ (yZ n).length + 1 := by
 have h1 := ydq (JC (yZ n) k)
 have h2 := JA (yZ n) k
 unfold jt
 omega
theorem ZE (l : List ya) (h : l.length ≤ 1048576) : yR l = some (zq l) := by
 unfold yR zq
 by_cases h0 : l.length = 0
 ·rw [if_pos h0, show (((List.length l : Nat) : Int) == 0) = true from beq_iff_eq.2 (by omega)]
  rfl
 ·rw [if_neg h0, show (((List.length l : Nat) : Int) == 0) = false from beq_eq_false_iff_ne.2 (by omega), cond_false, if_pos (by simp only [List.length_nil]; omega)]
  rfl
theorem Je (l : List ya) (h : l.length ≤ 1048576) : zh l = some (zq l) := by
 unfold zh zq
 by_cases h0 : l.length = 0
 ·rw [if_pos h0, show (((List.length l : Nat) : Int) == 0) = true from beq_iff_eq.2 (by omega)]
  rfl
 ·rw [if_neg h0, show (((List.length l : Nat) : Int) == 0) = false from beq_eq_false_iff_ne.2 (by omega), cond_false, Kc l h]
  rfl
theorem Kq {l : List ya} (h : l.length ≤ 1000) : NS (zq l) := by
 unfold zq
 split
 ·exact ⟨by simp, by simp [wK]⟩
 ·exact ⟨by simp, by simp [wK, vv]; omega⟩
theorem y3B (l : List ya) : (zq l).length ≤ 1 ∧ wK vv (zq l) ≤ l.length := by
 unfold zq
 split
 ·exact ⟨by simp, by simp [wK]⟩
 ·exact ⟨by simp, by simp [wK, vv]⟩
theorem ykx {n : List yb} (i : Nat) (s : yb) (hi : i < n.length) : wK vv (n.set i s) = wK vv n - vv (n.getD i z6) + vv s := by
 induction n generalizing i with
 | nil => simp at hi
 | cons a n ih =>
  cases i with
  | zero =>
   rw [List.set_cons_zero, Y0, Y0]
   simp
   omega
  | succ i =>
   rw [List.set_cons_succ, Y0, Y0, ih i (by simpa using hi), List.getD_cons_succ]
   omega
theorem y0W {A : Type} (w : A → Int) (l : List A) (a : A) : wK w (l ++ [a]) = wK w l + w a := by
 induction l with
 | nil => simp [wK]
 | cons b l ih =>
  rw [List.cons_append, Y0, Y0, ih]
  omega
theorem y1m (n : List yb) (k : ya) : (WK n k).length ≤ n.length + 1 ∧ wK vv (WK n k) ≤ wK vv n + 1 := by
 unfold WK
 split
 ·rename_i h
  have h1 := JA (WJ n) k
  have h2 : vv (JC (WJ n) k) ≤ vv (WJ n) + 1 := by
   unfold vv
   have : List.length (JC (WJ n) k) ≤ List.length (WJ n) + 1 := h1
   omega
  rw [List.length_set, ykx _ _ (by omega)]
  have e : n.getD (n.length - 1) z6 = WJ n := rfl
  rw [e]
  constructor <;> omega
 ·rw [y0W, List.length_append]
  have e : vv [k] = 1 := rfl
  rw [e]
  exact ⟨Nat.le_refl _, Int.le_refl _⟩
theorem NS.small {n : List yb} (h1 : n.length ≤ 1001) (h2 : wK vv n ≤ 1001) : n.length ≤ 1073741824 ∧ ∀ s ∈ n, List.length s ≤ 1073741824 := by
 refine ⟨by omega, fun s hs => ?_⟩
 have h3 := (QH kp hs).1
 have h4 : vv s = (List.length s : Int) := rfl
 omega
section
variable (n : List yb) (a b c d e : Int) (h : NS n)
include h
theorem Qt : Yu (n, a, b, c, d, e) = some (zr n (a, b, c, d, e)) := by
 have hk := h.keys
 have hl := h.len
 have hs := h.sum
 have hW := y0V n (a, b, c, d, e)
 have hN := y3B (jt n (a, b, c, d, e))
 have hN2 := NS.small (n := zq (jt n (a, b, c, d, e))) (by omega) (by omega)
 have hO := y1m n (a, b, c, d, e)
 have hO2 := NS.small (n := WK n (a, b, c, d, e)) (by omega) (by omega)
 have hw : Go.IntKind.wrap .i64 ((n.length : Int) - 1) = (n.length : Int) - 1 := w64 (by omega) (by omega)
 have hT : ∀ out, out = WK n (a, b, c, d, e) → (Option.bind (zl out) fun r6 => bif r6 then some (out, true) else Option.bind (yA n) fun r7 => Option.bind (zp (r7, a, b, c, d, e)) fun r8 => Option.bind (zS r8) fun r9 => bif (decide (((List.length r9 : Nat) : Int) > (8 : Int))) then some (n, false) else Option.bind (yR r9) fun r11 => Option.bind (zl r11) fun r12 => bif (!r12) then some (n, false) else Option.bind (yR r9) fun r14 => some (r14, true)) = some (zr n (a, b, c, d, e)) := by
  rintro out rfl
  have e1 : zS (JC (yZ n) (a, b, c, d, e)) = some (jt n (a, b, c, d, e)) := Qn _ (by have := JA (yZ n) (a, b, c, d, e); omega)
  simp only [V1 _ hO2.1 hO2.2, YO n (by omega) (by omega), w9 (yZ n) a b c d e (by omega), e1, ZE (jt n (a, b, c, d, e)) (by omega), V1 _ hN2.1 hN2.2, Option.bind_some]
  unfold zr
  cases Yk (WK n (a, b, c, d, e)) with
  | true => rfl
  | false =>
   by_cases h8 : (jt n (a, b, c, d, e)).length > 8
   ·rw [decide_eq_true (show ((List.length (jt n (a, b, c, d, e)) : Nat) : Int) > 8 by omega), if_pos h8]
    rfl
   ·rw [decide_eq_false (show ¬ ((List.length (jt n (a, b, c, d, e)) : Nat) : Int) > 8 by omega), if_neg h8]
    cases Yk (zq (jt n (a, b, c, d, e))) <;> rfl
 unfold Yu
 simp only [V5 n h.q, Option.bind_some, hw]
 by_cases h0 : n.length = 0
 ·have e1 : ¬ (0 < n.length ∧ (List.length (WJ n) < 4 ∨ (Vx (WJ n) a b).2.2.2.2.2 = true)) := fun hh => by omega
  simp only [decide_eq_false (show ¬ ((n.length : Int) - 1 ≥ 0) by omega), cond_false, Option.bind_some]
  rw [if_pos (by simp only [List.length_cons, List.length_nil]; omega)]
  exact hT _ (by unfold WK; rw [if_neg e1])
 ·have i0 : 0 ≤ (n.length : Int) - 1 := by omega
  have i1 : (n.length : Int) - 1 < ((List.length n : Nat) : Int) := by omega
  have hlm := h.mem (y8o (n := n) (by omega))
  have erd : yp n ((n.length : Int) - 1) = WJ n := by
   show n.getD ((n.length : Int) - 1).toNat z6 = n.getD (n.length - 1) z6
   congr 1
   omega
  have etn : ((n.length : Int) - 1).toNat = n.length - 1 := by omega
  rw [decide_eq_true (show (n.length : Int) - 1 ≥ 0 from i0)]
  simp only [cond_true, i0, i1, if_true, erd, etn, y0T (WJ n) a b (by omega), w9 (WJ n) a b c d e (by omega), Option.bind_some]
  by_cases h4 : List.length (WJ n) < 4
  ·rw [decide_eq_true (show ((List.length (WJ n) : Nat) : Int) < 4 by omega)]
   exact hT _ (by unfold WK; rw [if_pos ⟨by omega, .inl h4⟩])
  ·rw [decide_eq_false (show ¬ ((List.length (WJ n) : Nat) : Int) < 4 by omega)]
   cases hA : (Vx (WJ n) a b).2.2.2.2.2 with
   | true => exact hT _ (by unfold WK; rw [if_pos ⟨by omega, .inr hA⟩])
   | false =>
    simp only [cond_false, Option.bind_some]
    rw [if_pos (by simp only [List.length_cons, List.length_nil]; omega)]
    exact hT _ (by
     unfold WK
     rw [if_neg fun hh => ?_]
     rcases hh.2 with hh | hh
     ·exact h4 hh
     ·rw [hA] at hh
      cases hh)
theorem qy : zJ (n, a, b, c, d, e) = some (jt n (a, b, c, d, e)) := by
 have hk := h.keys
 have hl := h.len
 have hs := h.sum
 have e1 : jV (JC (yZ n) (a, b, c, d, e)) = some (jt n (a, b, c, d, e)) := y1H _ (by have := JA (yZ n) (a, b, c, d, e); omega)
 unfold zJ
 simp only [jh n (by omega) (by omega), V0 (yZ n) a b c d e (by omega), e1, Option.bind_some]
theorem y3C : JW (n, a, b, c, d, e) = some (zr n (a, b, c, d, e)) := by
 have hk := h.keys
 have hl := h.len
 have hs := h.sum
 have hW := y0V n (a, b, c, d, e)
 have hN := y3B (jt n (a, b, c, d, e))
 have hN2 := NS.small (n := zq (jt n (a, b, c, d, e))) (by omega) (by omega)
 have hO := y1m n (a, b, c, d, e)
 have hO2 := NS.small (n := WK n (a, b, c, d, e)) (by omega) (by omega)
 have hw : Go.IntKind.wrap .i64 ((n.length : Int) - 1) = (n.length : Int) - 1 := w64 (by omega) (by omega)
 have hT : ∀ out, out = WK n (a, b, c, d, e) → (Option.bind (zy out) fun r5 => bif r5 then some (out, true) else Option.bind (zJ (n, a, b, c, d, e)) fun r6 => Option.bind (zh r6) fun r7 => Option.bind (bif (decide (((List.length r6 : Nat) : Int) > (8 : Int))) then some true else Option.bind (zy r7) fun r9 => some (!r9)) fun u8 => bif u8 then some (n, false) else some (r7, true)) = some (zr n (a, b, c, d, e)) := by
  rintro out rfl
  simp only [V2 _ hO2.1 hO2.2, qy n a b c d e h, Je (jt n (a, b, c, d, e)) (by omega), V2 _ hN2.1 hN2.2, Option.bind_some]
  unfold zr
  cases Yk (WK n (a, b, c, d, e)) with
  | true => rfl
  | false =>
   by_cases h8 : (jt n (a, b, c, d, e)).length > 8
   ·rw [decide_eq_true (show ((List.length (jt n (a, b, c, d, e)) : Nat) : Int) > 8 by omega), if_pos h8]
    rfl
   ·rw [decide_eq_false (show ¬ ((List.length (jt n (a, b, c, d, e)) : Nat) : Int) > 8 by omega), if_neg h8]
    cases Yk (zq (jt n (a, b, c, d, e))) <;> rfl
 unfold JW
 simp only [Kd n h.q, Option.bind_some, hw]
 by_cases h0 : n.length = 0
 ·have e1 : ¬ (0 < n.length ∧ (List.length (WJ n) < 4 ∨ (Vx (WJ n) a b).2.2.2.2.2 = true)) := fun hh => by omega
  simp only [decide_eq_false (show ¬ ((n.length : Int) - 1 ≥ 0) by omega), cond_false, Option.bind_some]
  rw [if_pos (by simp only [List.length_cons, List.length_nil]; omega)]
  exact hT _ (by unfold WK; rw [if_neg e1])
 ·have i0 : 0 ≤ (n.length : Int) - 1 := by omega
  have i1 : (n.length : Int) - 1 < ((List.length n : Nat) : Int) := by omega
  have hlm := h.mem (y8o (n := n) (by omega))
  have erd : yp n ((n.length : Int) - 1) = WJ n := by
   show n.getD ((n.length : Int) - 1).toNat z6 = n.getD (n.length - 1) z6
   congr 1
   omega
  have etn : ((n.length : Int) - 1).toNat = n.length - 1 := by omega
  rw [decide_eq_true (show (n.length : Int) - 1 ≥ 0 from i0)]
  simp only [cond_true, i0, i1, if_true, erd, etn, y73 (WJ n) a b (by omega), V0 (WJ n) a b c d e (by omega), Option.bind_some]
  cases hA : (Vx (WJ n) a b).2.2.2.2.2 with
  | true => exact hT _ (by unfold WK; rw [if_pos ⟨by omega, .inr hA⟩])
  | false =>
   by_cases h4 : List.length (WJ n) < 4
   ·rw [decide_eq_true (show ((List.length (WJ n) : Nat) : Int) < 4 by omega)]
    exact hT _ (by unfold WK; rw [if_pos ⟨by omega, .inl h4⟩])
   ·rw [decide_eq_false (show ¬ ((List.length (WJ n) : Nat) : Int) < 4 by omega)]
    simp only [cond_false, Option.bind_some]
    rw [if_pos (by simp only [List.length_cons, List.length_nil]; omega)]
    exact hT _ (by
     unfold WK
     rw [if_neg fun hh => ?_]
     rcases hh.2 with hh | hh
     ·exact h4 hh
     ·rw [hA] at hh
      cases hh)
end
end Go.Proofs.YthgdjjdigalckaaGreat.Pl
namespace Go.Proofs.YthgdjjdigalckaaGreat.Pl
open Go.Proofs.YthgdjjdigalckaaGreat.R Go.Proofs.YthgdjjdigalckaaGreat.XT
structure TS (t : List y0) : Prop where
 len : t.length ≤ 100
 node : ∀ n ∈ t, NS n
theorem TS.ok {t : List y0} (h : TS t) : TOk t := by
 have hl := h.len
 refine ⟨by omega, fun n hn => Nat.le_trans (h.node n hn).len (by decide), ?_⟩
 have hb : ∀ (t : List y0), (∀ n ∈ t, NS n) → wK qB t ≤ 2000 * t.length := by
  intro t
  induction t with
  | nil => intro _; simp [wK]
  | cons a t ih =>
   intro hn
   have h1 := ih fun n h => hn n (by simp [h])
   have h2 := hn a (by simp)
   have h3 : qB a = (List.length a : Int) + wK vv a := rfl
   have h4 : List.length a ≤ 1000 := h2.len
   have h5 : wK vv a ≤ 1000 := h2.sum
   rw [Y0, List.length_cons]
   omega
 have := hb t h.node
 omega
def zu {A : Type} (l : List A) (i c : Nat) (m : List A) : List A := l.take i ++ m ++ l.drop (i + c)
theorem JB {A : Type} (l : List A) (i c : Nat) (m : List A) (h : i + c ≤ l.length) : (zu l i c m).length = l.length + m.length - c := by
 unfold zu
 simp only [List.length_append, List.length_take, List.length_drop]
 omega
theorem ybH {A : Type} {l : List A} {i c : Nat} {m : List A} {x : A} (h : x ∈ zu l i c m) : x ∈ l ∨ x ∈ m := by
 unfold zu at h
 rcases List.mem_append.1 h with h | h
 ·rcases List.mem_append.1 h with h | h
  ·exact .inl (List.mem_of_mem_take h)
  ·exact .inr h
 ·exact .inl (List.mem_of_mem_drop h)
theorem y51 {A : Type} (l : List A) (i : Nat) (x : A) (h : i < l.length) : zu l i 1 [x] = l.set i x := by
 unfold zu
 rw [List.set_eq_take_append_cons_drop, if_pos h]
 simp
theorem ybI {A : Type} (d : A) (l : List A) (i : Nat) (h : i + 2 ≤ l.length) : zu l i 2 [l.getD i d] = l.take (i + 1) ++ l.drop (i + 2) := by
 unfold zu
 rw [y0j _ _ _ (by omega), List.take_succ_eq_append_getElem (by omega)]
theorem TS.splice {t : List y0} (h : TS t) {i c : Nat} {m : List y0} (hl : (zu t i c m).length ≤ 100) (hm : ∀ n ∈ m, NS n) : TS (zu t i c m) :=
 ⟨hl, fun n hn => (ybH hn).elim (h.node n) (hm n)⟩
theorem VX (q : List Int) (t : List y0) (i : Int) (ql : List Int) (tl : List y0) (h0 : 0 ≤ i) (h1 : i < (q.length : Int)) (h2 : i < (t.length : Int)) (hq : q.length ≤ 1000) (ht : t.length ≤ 1000) (hql : ql.length ≤ 1000) (htl : tl.length ≤ 1000) :
  jN (q, t, i, ql, tl) = some (zu q i.toNat 1 ql, zu t i.toNat 1 tl) := by
 have hw : Go.IntKind.wrap .i64 (i + 1) = i + 1 := w64 (by omega) (by omega)
 have e1 : (i + 1).toNat = i.toNat + 1 := by omega
 unfold jN
 simp only [hw]
 iterate 18 rw [if_pos (by first | omega | (simp only [List.length_append, List.length_drop, List.length_take, List.length_nil]; omega))]
 simp [zu, e1]
theorem Kh (q : List Int) (t : List y0) (i c : Int) (ql : List Int) (tl : List y0) (h0 : 0 ≤ i) (hc : 0 ≤ c) (h1 : i + c ≤ (q.length : Int)) (h2 : i + c ≤ (t.length : Int)) (hq : q.length ≤ 1000) (ht : t.length ≤ 1000) (hql : ql.length ≤ 1000) (htl : tl.length ≤ 1000) :
  zV (q, t, i, c, ql, tl) = some (zu q i.toNat c.toNat ql, zu t i.toNat c.toNat tl) := by
 have hw : Go.IntKind.wrap .i64 (i + c) = i + c := w64 (by omega) (by omega)
 have e1 : (i + c).toNat = i.toNat + c.toNat := by omega
 have e2 : List.drop (Int.toNat 0) (List.take (Int.toNat i) q) = q.take i.toNat := rfl
 unfold zV
 simp only [hw]
 iterate 3 rw [if_pos (by omega)]
 rw [e2, qx _ (by rw [List.length_take]; omega)]
 simp only [Option.bind_some]
 iterate 14 rw [if_pos (by first | omega | (simp only [List.length_append, List.length_drop, List.length_take, List.length_nil]; omega))]
 simp [zu, e1]
def z8 : List y0 → Int → Int
 | a :: b :: r, i => if (yZ a).length + (yZ b).length ≤ 6 then i else z8 (b :: r) (i + 1)
 | _, _ => -1
theorem y3D (l : List y0) (i : Int) (h : l.length ≤ 1) : z8 l i = -1 := by
 match l, h with
 | [], _ => rfl
 | [_], _ => rfl
theorem y52 : ∀ (l : List y0) (i : Int), z8 l i = -1 ∨ i ≤ z8 l i ∧ z8 l i + 2 ≤ i + l.length ∧ (yZ (l.getD (z8 l i - i).toNat yB)).length + (yZ (l.getD (z8 l i - i + 1).toNat yB)).length ≤ 6
 | [], _ => .inl rfl
 | [_], _ => .inl rfl
 | a :: b :: r, i => by
  rw [z8]
  by_cases h : (yZ a).length + (yZ b).length ≤ 6
  ·rw [if_pos h]
   refine .inr ⟨Int.le_refl _, by simp only [List.length_cons]; omega, ?_⟩
   rw [show (i - i).toNat = 0 by omega, show (i - i + 1).toNat = 1 by omega]
   exact h
  ·rw [if_neg h]
   rcases y52 (b :: r) (i + 1) with h1 | ⟨h1, h2, h3⟩
   ·exact .inl h1
   ·refine .inr ⟨by omega, by simp only [List.length_cons] at h2 ⊢; omega, ?_⟩
    rw [show (z8 (b :: r) (i + 1) - i).toNat = (z8 (b :: r) (i + 1) - (i + 1)).toNat + 1 by omega, show (z8 (b :: r) (i + 1) - i + 1).toNat = (z8 (b :: r) (i + 1) - (i + 1) + 1).toNat + 1 by omega, List.getD_cons_succ, List.getD_cons_succ]
    exact h3
theorem yaN (t : List y0) (i : Int) (h0 : 0 ≤ i) (h1 : i + 1 < (t.length : Int)) : z8 (t.drop i.toNat) i = if (yZ (yg t i)).length + (yZ (yg t (i + 1))).length ≤ 6 then i else z8 (t.drop (i + 1).toNat) (i + 1) := by
 rw [w8 yB t i h0 (by omega), w8 yB t (i + 1) (by omega) h1, z8]
 rfl
theorem nk {t : List y0} (h : TS t) {i : Int} (h0 : 0 ≤ i) (h1 : i < (t.length : Int)) : NS (yg t i) := h.node _ (zi yB t i h0 h1)
theorem kr {t : List y0} (h : TS t) {i : Int} (h0 : 0 ≤ i) (h1 : i < (t.length : Int)) : yA (yg t i) = some (yZ (yg t i)) := by
 have hn := nk h h0 h1
 exact YO _ (Nat.le_trans hn.len (by decide)) (Int.le_trans hn.sum (by decide))
theorem y0k {t : List y0} (h : TS t) {i : Int} (h0 : 0 ≤ i) (h1 : i < (t.length : Int)) : yH (yg t i) = some (yZ (yg t i)) := by
 have hn := nk h h0 h1
 exact jh _ (Nat.le_trans hn.len (by decide)) (Int.le_trans hn.sum (by decide))
theorem y1K (q : List Int) (t : List y0) (h : TS t) : Jp (q, t) = some (z8 t 0) := by
 have hl := h.len
 unfold Jp qX
 refine Yo (step := wZ _ _) (fun x : Int × List Int × List y0 => t.length - x.1.toNat) (fun x => x.2.2 = t ∧ 0 ≤ x.1 ∧ x.1 ≤ (t.length : Int)) (fun x => some (z8 (t.drop x.1.toNat) x.1)) ?_ (0, q, t) ⟨rfl, Int.le_refl _, by simp⟩ (by simp; omega)
 rintro again ⟨i, q', t'⟩ ⟨rfl, i0, i1⟩ hag
 simp only at i0 i1 hl h ⊢
 unfold wZ
 by_cases hi : i + 1 < (t'.length : Int)
 ·have hw : Go.IntKind.wrap .i64 (i + 1) = i + 1 := w64 (by omega) (by omega)
  have k1 := nk h i0 (show i < (t'.length : Int) by omega)
  have k2 := nk h (show 0 ≤ i + 1 by omega) hi
  have hw2 : Go.IntKind.wrap .i64 (((List.length (yZ (yg t' i)) : Nat) : Int) + ((List.length (yZ (yg t' (i + 1))) : Nat) : Int)) = ((List.length (yZ (yg t' i)) : Nat) : Int) + ((List.length (yZ (yg t' (i + 1))) : Nat) : Int) := w64 (by omega) (by have := k1.keys; have := k2.keys; omega)
  simp only [hw, kr h i0 (show i < (t'.length : Int) by omega), kr h (show 0 ≤ i + 1 by omega) hi, Option.bind_some, hw2]
  rw [decide_eq_true hi, cond_true, if_pos i0, if_pos (by omega), if_pos (by omega), if_pos hi, yaN t' i i0 hi]
  by_cases h6 : (yZ (yg t' i)).length + (yZ (yg t' (i + 1))).length ≤ 6
  ·rw [decide_eq_true (show ((List.length (yZ (yg t' i)) : Nat) : Int) + ((List.length (yZ (yg t' (i + 1))) : Nat) : Int) ≤ 6 by omega), if_pos h6]
   rfl
  ·rw [decide_eq_false (show ¬ ((List.length (yZ (yg t' i)) : Nat) : Int) + ((List.length (yZ (yg t' (i + 1))) : Nat) : Int) ≤ 6 by omega), if_neg h6]
   exact hag _ ⟨rfl, by simp only; omega, by simp only; omega⟩ (by simp only; omega)
 ·have hw : ¬ Go.IntKind.wrap .i64 (i + 1) < (t'.length : Int) := by
   rw [w64 (by omega) (by omega)]
   exact hi
  rw [decide_eq_false hw, y3D _ _ (by rw [List.length_drop]; omega)]
  rfl
def wA : Nat → List Int → List y0 → List Int × List y0
 | 0, q, t => (q, t)
 | m + 1, q, t => if z8 t 0 < 0 then (q, t) else wA m (zu q (z8 t 0).toNat 2 [q.getD (z8 t 0).toNat 0]) (zu t (z8 t 0).toNat 2 [zq (yZ (t.getD (z8 t 0).toNat yB) ++ yZ (t.getD (z8 t 0 + 1).toNat yB))])
section
variable {q : List Int} {t : List y0} (h : TS t) (hq : q.length = t.length) (hp : ¬ z8 t 0 < 0)
include h hp
omit h in
theorem y74 : 0 ≤ z8 t 0 ∧ z8 t 0 + 2 ≤ (t.length : Int) ∧ (yZ (yg t (z8 t 0))).length + (yZ (yg t (z8 t 0 + 1))).length ≤ 6 := by
 rcases y52 t 0 with h1 | ⟨h1, h2, h3⟩
 ·omega
 ·refine ⟨h1, by omega, ?_⟩
  rw [Int.sub_zero] at h3
  exact h3
theorem y9H : TS (zu t (z8 t 0).toNat 2 [zq (yZ (yg t (z8 t 0)) ++ yZ (yg t (z8 t 0 + 1)))]) := by
 obtain ⟨h1, h2, h3⟩ := y74 hp
 have hl := h.len
 refine h.splice (by rw [JB _ _ _ _ (by omega)]; simp only [List.length_cons, List.length_nil]; omega) fun n hn => ?_
 obtain rfl := List.mem_singleton.1 hn
 exact Kq (by rw [List.length_append]; omega)
include hq
theorem yaO : (zu t (z8 t 0).toNat 2 [zq (yZ (yg t (z8 t 0)) ++ yZ (yg t (z8 t 0 + 1)))]).length = t.length - 1 ∧ (zu q (z8 t 0).toNat 2 [q.getD (z8 t 0).toNat 0]).length = t.length - 1 := by
 obtain ⟨h1, h2, h3⟩ := y74 hp
 rw [JB _ _ _ _ (by omega), JB _ _ _ _ (by omega)]
 simp only [List.length_cons, List.length_nil]
 omega
theorem y53 : wA t.length q t = wA (t.length - 1) (zu q (z8 t 0).toNat 2 [q.getD (z8 t 0).toNat 0]) (zu t (z8 t 0).toNat 2 [zq (yZ (yg t (z8 t 0)) ++ yZ (yg t (z8 t 0 + 1)))]) := by
 obtain ⟨h1, h2, h3⟩ := y74 hp
 rw [show t.length = (t.length - 1) + 1 by omega, wA, if_neg hp]
 rfl
end
theorem y8p {q : List Int} {t : List y0} (m : Nat) (hp : z8 t 0 < 0) : wA m q t = (q, t) := by
 cases m with
 | zero => rfl
 | succ m => rw [wA, if_pos hp]
theorem y8q (q : List Int) (t : List y0) (h : TS t) (hq : q.length = t.length) : YU (q, t) = some (wA t.length q t) := by
 have hl := h.len
 unfold YU qY
 simp only [y1K q t h, Option.bind_some]
 refine Yo (step := W0 _) (fun x : Int × List Int × List y0 => x.2.2.length) (fun x => TS x.2.2 ∧ x.2.1.length = x.2.2.length ∧ x.1 = z8 x.2.2 0) (fun x => some (wA x.2.2.length x.2.1 x.2.2)) ?_ (z8 t 0, q, t) ⟨h, hq, rfl⟩ (by simp only; omega)
 rintro again ⟨i, q, t⟩ ⟨h, hq, hi⟩ hag
 simp only at h hq hi ⊢
 subst hi
 have hl := h.len
 unfold W0
 by_cases hp : z8 t 0 < 0
 ·rw [decide_eq_false (show ¬ z8 t 0 ≥ 0 by omega), y8p _ hp]
  rfl
 ·obtain ⟨h1, h2, h3⟩ := y74 hp
  have hw : Go.IntKind.wrap .i64 (z8 t 0 + 1) = z8 t 0 + 1 := w64 (by omega) (by omega)
  have hw2 : Go.IntKind.wrap .i64 (z8 t 0 + 2) = z8 t 0 + 2 := w64 (by omega) (by omega)
  have hT := y9H h hp
  have hL := yaO h hq hp
  have eq1 : ([] ++ List.drop (Int.toNat 0) (List.take (Int.toNat (z8 t 0 + 1)) q)) ++ List.drop (Int.toNat (z8 t 0 + 2)) (List.take (Int.toNat (q.length : Int)) q) = zu q (z8 t 0).toNat 2 [q.getD (z8 t 0).toNat 0] := by
   rw [ybI 0 q _ (by omega), show (z8 t 0 + 1).toNat = (z8 t 0).toNat + 1 by omega, show (z8 t 0 + 2).toNat = (z8 t 0).toNat + 2 by omega]
   simp
  have eq2 : ∀ n : y0, (([] ++ List.drop (Int.toNat 0) (List.take (Int.toNat (z8 t 0)) t)) ++ [n]) ++ List.drop (Int.toNat (z8 t 0 + 2)) (List.take (Int.toNat (t.length : Int)) t) = zu t (z8 t 0).toNat 2 [n] := fun n => by
   rw [show (z8 t 0 + 2).toNat = (z8 t 0).toNat + 2 by omega]
   simp [zu]
  simp only [hw, hw2, kr h h1 (show z8 t 0 < (t.length : Int) by omega), kr h (show 0 ≤ z8 t 0 + 1 by omega) (show z8 t 0 + 1 < (t.length : Int) by omega), ZE (yZ (yg t (z8 t 0)) ++ yZ (yg t (z8 t 0 + 1))) (by rw [List.length_append]; omega), Option.bind_some, eq1, eq2, y1K _ _ hT]
  rw [decide_eq_true (show z8 t 0 ≥ 0 from h1), cond_true]
  iterate 22 rw [if_pos (by first | omega | (simp only [List.length_append, List.length_drop, List.length_take, List.length_nil, List.length_cons]; omega))]
  rw [y53 h hq hp, ← hL.1]
  exact hag (z8 (zu t (z8 t 0).toNat 2 [zq (yZ (yg t (z8 t 0)) ++ yZ (yg t (z8 t 0 + 1)))]) 0, zu q (z8 t 0).toNat 2 [q.getD (z8 t 0).toNat 0], zu t (z8 t 0).toNat 2 [zq (yZ (yg t (z8 t 0)) ++ yZ (yg t (z8 t 0 + 1)))]) ⟨hT, hL.2.trans hL.1.symm, rfl⟩ (by simp only; omega)
theorem y4f (q : List Int) (t : List y0) (h : TS t) (hq : q.length = t.length) : Z1 (q, t) = some (wA t.length q t) := by
 have hl := h.len
 unfold Z1 Qk
 have key : ∀ (i : Int) (q : List Int) (t : List y0) (k1 k2 : Int × List Int × List y0 → Option (List Int × List y0)), TS t → q.length = t.length → 0 ≤ i → i ≤ (t.length : Int) → z8 t 0 = z8 (t.drop i.toNat) i →
   (∀ i' q' t', TS t' → q'.length = t'.length → 0 ≤ i' → i' ≤ (t'.length : Int) → z8 t' 0 = z8 (t'.drop i'.toNat) i' → t'.length * 1000 + (t'.length - i'.toNat) < t.length * 1000 + (t.length - i.toNat) → k1 (i', q', t') = some (wA t'.length q' t') ∧ k2 (i', q', t') = some (wA t'.length q' t')) →
   (bif (decide ((Go.IntKind.wrap .i64 (i + (1 : Int))) < ((List.length t : Nat) : Int))) then if (0 : Int) ≤ i then if i < ((List.length t : Nat) : Int) then Option.bind (yH (yg t i)) fun r5 => if (0 : Int) ≤ (Go.IntKind.wrap .i64 (i + (1 : Int))) then if (Go.IntKind.wrap .i64 (i + (1 : Int))) < ((List.length t : Nat) : Int) then Option.bind (yH (yg t (Go.IntKind.wrap .i64 (i + (1 : Int))))) fun r6 => if (List.length r5 + List.length r6) * 40 < 140737488355328 then bif (decide (((List.length (r5 ++ r6) : Nat) : Int) ≤ (6 : Int))) then if (0 : Int) ≤ i then if i < ((List.length q : Nat) : Int) then Option.bind (zh (r5 ++ r6)) fun r7 => Option.bind (zV (q, t, i, (2 : Int), ([(zC q i)] : List yf), ([r7] : List y0))) fun r8 => k1 ((Go.IntKind.wrap .i64 ((-1 : Int) + (1 : Int))), r8.1, r8.2) else none else none else k2 ((Go.IntKind.wrap .i64 (i + (1 : Int))), q, t) else none else none else none else none else none else some (q, t)) = some (wA t.length q t) := by
  intro i q t k1 k2 h hq i0 i1 hpi hk
  have hl := h.len
  have hw : Go.IntKind.wrap .i64 (i + 1) = i + 1 := w64 (by omega) (by omega)
  have hw0 : Go.IntKind.wrap .i64 (-1 + 1) = 0 := rfl
  simp only [hw, hw0]
  by_cases hi : i + 1 < (t.length : Int)
  ·have g1 := (nk h i0 (show i < (t.length : Int) by omega)).keys
   have g2 := (nk h (show 0 ≤ i + 1 by omega) hi).keys
   rw [yaN t i i0 hi] at hpi
   simp only [y0k h i0 (show i < (t.length : Int) by omega), y0k h (show 0 ≤ i + 1 by omega) hi, Option.bind_some]
   rw [decide_eq_true hi, cond_true, if_pos i0, if_pos (by omega), if_pos (by omega), if_pos hi, if_pos (by omega)]
   by_cases h6 : (yZ (yg t i)).length + (yZ (yg t (i + 1))).length ≤ 6
   ·rw [if_pos h6] at hpi
    subst hpi
    have hp : ¬ z8 t 0 < 0 := by omega
    have hT := y9H h hp
    have hL := yaO h hq hp
    rw [decide_eq_true (show ((List.length (yZ (yg t (z8 t 0)) ++ yZ (yg t (z8 t 0 + 1))) : Nat) : Int) ≤ 6 by rw [List.length_append]; omega), cond_true, if_pos i0, if_pos (by omega), Je _ (by rw [List.length_append]; omega)]
    simp only [Option.bind_some]
    rw [Kh q t _ 2 _ _ i0 (by decide) (by omega) (by omega) (by omega) (by omega) (by simp) (by simp)]
    simp only [Option.bind_some]
    rw [y53 h hq hp, ← hL.1]
    exact (hk 0 (zu q (z8 t 0).toNat 2 [q.getD (z8 t 0).toNat 0]) (zu t (z8 t 0).toNat 2 [zq (yZ (yg t (z8 t 0)) ++ yZ (yg t (z8 t 0 + 1)))]) hT (hL.2.trans hL.1.symm) (Int.le_refl _) (by omega) rfl (by omega)).1
   ·rw [if_neg h6] at hpi
    rw [decide_eq_false (show ¬ ((List.length (yZ (yg t i) ++ yZ (yg t (i + 1))) : Nat) : Int) ≤ 6 by rw [List.length_append]; omega), cond_false]
    exact (hk (i + 1) q t h hq (by omega) (by omega) hpi (by omega)).2
  ·rw [y3D (t.drop i.toNat) i (by rw [List.length_drop]; omega)] at hpi
   rw [decide_eq_false hi, y8p _ (by omega)]
   rfl
 refine Yo (step := vi _ _) (fun x : (Int × List Int × List y0) ⊕ (Int × List Int × List y0) => (Sum.elim id id x).2.2.length * 1000 + ((Sum.elim id id x).2.2.length - (Sum.elim id id x).1.toNat)) (fun x => TS (Sum.elim id id x).2.2 ∧ (Sum.elim id id x).2.1.length = (Sum.elim id id x).2.2.length ∧ 0 ≤ (Sum.elim id id x).1 ∧ (Sum.elim id id x).1 ≤ ((Sum.elim id id x).2.2.length : Int) ∧ z8 (Sum.elim id id x).2.2 0 = z8 ((Sum.elim id id x).2.2.drop (Sum.elim id id x).1.toNat) (Sum.elim id id x).1)
  (fun x => some (wA (Sum.elim id id x).2.2.length (Sum.elim id id x).2.1 (Sum.elim id id x).2.2)) ?_ (Sum.inl (0, q, t)) ⟨h, hq, Int.le_refl _, by simp, rfl⟩ (by simp; omega)
 rintro again (⟨i, q, t⟩ | ⟨i, q, t⟩) ⟨h, hq, i0, i1, hpi⟩ hag
 ·exact key i q t (fun x => again (Sum.inr x)) (fun x => again (Sum.inl x)) h hq i0 i1 hpi fun i' q' t' a1 a2 a3 a4 a5 a6 => ⟨hag (Sum.inr (i', q', t')) ⟨a1, a2, a3, a4, a5⟩ a6, hag (Sum.inl (i', q', t')) ⟨a1, a2, a3, a4, a5⟩ a6⟩
 ·exact key i q t (fun x => again (Sum.inr x)) (fun x => again (Sum.inr x)) h hq i0 i1 hpi fun i' q' t' a1 a2 a3 a4 a5 a6 => ⟨hag (Sum.inr (i', q', t')) ⟨a1, a2, a3, a4, a5⟩ a6, hag (Sum.inr (i', q', t')) ⟨a1, a2, a3, a4, a5⟩ a6⟩
end Go.Proofs.YthgdjjdigalckaaGreat.Pl
namespace Go.Proofs.YthgdjjdigalckaaGreat.Pl
open Go.Proofs.YthgdjjdigalckaaGreat.R Go.Proofs.YthgdjjdigalckaaGreat.XT
theorem yaP : ∀ (n : List yb) (s : Int), 0 ≤ s → s + 60 * n.length ≤ 1000 → (∀ a ∈ n, List.length a ≤ 60) → n.foldl y04 s = s + wK vv n
 | [], s, _, _, _ => by simp [wK]
 | a :: n, s, h0, hb, ha => by
  have h1 := ha a (by simp)
  rw [List.length_cons] at hb
  have hw : y04 s a = s + (List.length a : Int) := w64 (by omega) (by omega)
  have e : vv a = (List.length a : Int) := rfl
  rw [List.foldl_cons, hw, yaP n _ (by omega) (by omega) fun b hm => ha b (by simp [hm]), Y0, e]
  omega
theorem ZF {n : List yb} (h : Yk n = true) : n.length ≤ 3 ∧ wK vv n ≤ 8 ∧ ∀ s ∈ n, ∀ k ∈ (show List ya from s), JD k = true := by
 obtain ⟨h1, h2⟩ := y3y h
 have h3 := yaP n 0 (Int.le_refl _) (by omega) fun a ha => (y71 (h2 a ha)).1
 unfold Yk at h
 simp only [Bool.and_eq_true, decide_eq_true_eq] at h
 exact ⟨h1, by omega, fun s hs => (y71 (h2 s hs)).2⟩
theorem y0X {n : List yb} (h : Yk n = true) : NS n := ⟨by have := (ZF h).1; omega, by have := (ZF h).2.1; omega⟩
theorem vp {q : List Int} {t : List y0} (h : Ys q t = true) : TS t := by
 obtain ⟨h1, h2, h3, h4⟩ := wd h
 exact ⟨by omega, fun n hn => y0X (h4 n hn)⟩
theorem y9I {q : List Int} {t : List y0} (h : Ys q t = true) : q.getD 0 0 = 0 := by
 unfold Ys at h
 simp only [Bool.and_eq_true, beq_iff_eq] at h
 exact h.2.2.1
theorem y1L (q : List Int) (sp : Int) (h : q.getD 0 0 ≤ sp) : ∀ n, 0 ≤ Kg q sp (n + 1)
 | 0 => by
  rw [Kg, if_pos h]
  simp
 | n + 1 => by
  rw [Kg]
  split
  ·omega
  ·exact y1L q sp h n
theorem yft {k : ya} (h : JD k = true) : 0 ≤ wO k.1 k.2.1 := by
 unfold JD at h
 simp only [Bool.and_eq_true, zZ] at h
 obtain ⟨h1, h2, _⟩ := h
 unfold wO
 rw [w64 (n := (64 : Int) * k.1) (by omega) (by omega), w64 (by omega) (by omega)]
 omega
theorem yfu {n : List yb} {k : ya} (hn : Yk n = true) (hk : JD k = true) (h : (zr n k).2 = false) : 8 < (jt n k).length := by
 unfold zr at h
 split at h
 ·cases h
 ·split at h
  ·assumption
  ·rename_i h8
   have hok : Yk (zq (jt n k)) = true := ybG (y8i (y4W k (ydn n))) (fun x hx => by
    rcases y4X (y8j hx) with rfl | hx
    ·exact hk
    ·obtain ⟨c, hc, hx⟩ := ydo hx
     exact (ZF hn).2.2 c hc x hx) (by omega)
   rw [if_pos hok] at h
   cases h
theorem y1n {n : List yb} (k : ya) (h : NS n) (h2 : n.length ≤ 900 ∧ wK vv n ≤ 900) : NS (zr n k).1 := by
 have h1 := y1m n k
 have h3 := y0V n k
 have h4 := vk n
 unfold zr
 split
 ·exact ⟨by simp only; omega, by simp only; omega⟩
 ·split
  ·exact h
  ·split
   ·exact Kq (by omega)
   ·exact h
def zo (q : List Int) (k : ya) : Nat := (Kg q (wO k.1 k.2.1) q.length).toNat
def Ko (l : List ya) : Nat := (l.length + 1) / 2
def yC (q : List Int) (t : List y0) (k : ya) : List Int × List y0 :=
 if (zr (t.getD (zo q k) yB) k).2 = false then
  (zu q (zo q k) 1 [q.getD (zo q k) 0, y9C ((jt (t.getD (zo q k) yB) k).getD (Ko (jt (t.getD (zo q k) yB) k)) yL)],
   zu t (zo q k) 1 [zq ((jt (t.getD (zo q k) yB) k).take (Ko (jt (t.getD (zo q k) yB) k))), zq ((jt (t.getD (zo q k) yB) k).drop (Ko (jt (t.getD (zo q k) yB) k)))])
 else if 0 < zo q k ∧ (yZ (zr (t.getD (zo q k) yB) k).1).length = 0 then (zu q (zo q k) 1 [], zu t (zo q k) 1 [])
 else (q, t.set (zo q k) (zr (t.getD (zo q k) yB) k).1)
def yJ (q : List Int) (t : List y0) (k : ya) : List Int × List y0 × Bool :=
 if (Ys q t && JD k) = true then
  (if Ys (wA (yC q t k).2.length (yC q t k).1 (yC q t k).2).1 (wA (yC q t k).2.length (yC q t k).1 (yC q t k).2).2 = true then
   ((wA (yC q t k).2.length (yC q t k).1 (yC q t k).2).1, (wA (yC q t k).2.length (yC q t k).1 (yC q t k).2).2, true) else (q, t, false))
 else (q, t, false)
theorem y75 : ∀ (m : Nat) (q : List Int) (t : List y0), TS t → TS (wA m q t).2
 | 0, _, _, h => h
 | m + 1, q, t, h => by
  rw [wA]
  split
  ·exact h
  ·rename_i hp
   exact y75 m _ _ (y9H h hp)
section
variable {q : List Int} {t : List y0} {k : ya} (h : Ys q t = true) (hk : JD k = true)
include h hk
theorem y2L : (Kg q (wO k.1 k.2.1) q.length) = (zo q k : Int) ∧ zo q k < t.length ∧ zo q k < q.length := by
 obtain ⟨h1, h2, h3, h4⟩ := wd h
 have h5 := y1L q (wO k.1 k.2.1) (by rw [y9I h]; exact yft hk) (q.length - 1)
 rw [show q.length - 1 + 1 = q.length by omega] at h5
 have h6 := y50 q (wO k.1 k.2.1) q.length
 unfold zo
 omega
theorem Qu : Yk (t.getD (zo q k) yB) = true := by
 have h1 := (y2L h hk).2.1
 rw [y0j _ _ _ h1]
 exact (wd h).2.2.2 _ (List.getElem_mem _)
theorem y9J (hm : (zr (t.getD (zo q k) yB) k).2 = false) : Ko (jt (t.getD (zo q k) yB) k) < (jt (t.getD (zo q k) yB) k).length ∧ (jt (t.getD (zo q k) yB) k).length ≤ 9 := by
 have h1 := yfu (Qu h hk) hk hm
 have h2 := y0V (t.getD (zo q k) yB) k
 have h3 := vk (t.getD (zo q k) yB)
 have h4 := (ZF (Qu h hk)).2.1
 unfold Ko
 omega
theorem y54 : TS (yC q t k).2 ∧ (yC q t k).1.length = (yC q t k).2.length := by
 obtain ⟨h1, h2, h3, h4⟩ := wd h
 obtain ⟨g0, g1, g2⟩ := y2L h hk
 have hT := vp h
 have hn := ZF (Qu h hk)
 unfold yC
 split
 ·rename_i hm
  have hh := y9J h hk hm
  refine ⟨hT.splice (by rw [JB _ _ _ _ (by omega)]; simp only [List.length_cons, List.length_nil]; omega) fun n hn => ?_, by rw [JB _ _ _ _ (by omega), JB _ _ _ _ (by omega)]; simp only [List.length_cons, List.length_nil]; omega⟩
  simp only [List.mem_cons, List.mem_nil_iff, or_false] at hn
  rcases hn with rfl | rfl
  ·exact Kq (by rw [List.length_take]; omega)
  ·exact Kq (by rw [List.length_drop]; omega)
 ·split
  ·refine ⟨hT.splice (by rw [JB _ _ _ _ (by omega)]; simp only [List.length_nil]; omega) (fun n hn => by cases hn), by rw [JB _ _ _ _ (by omega), JB _ _ _ _ (by omega)]; simp only [List.length_nil]; omega⟩
  ·refine ⟨⟨by simp only [List.length_set]; omega, fun n hn2 => (List.mem_or_eq_of_mem_set hn2).elim (hT.node n) fun e => e ▸ y1n k (y0X (Qu h hk)) (by omega)⟩, by simp only [List.length_set]; omega⟩
end
theorem YH (q : List Int) (t : List y0) (a b c d e : Int) (hT : TOk t) (hQ : ∀ n ∈ t, y21 n) (hq : q.length ≤ 1048576) : zH (q, t, a, b, c, d, e) = some (yJ q t (a, b, c, d, e)) := by
 unfold zH yJ
 simp only [kF q t hq hT.len hQ, V3 q t hT, y0O, Option.bind_some]
 cases h : Ys q t with
 | false => rfl
 | true =>
  cases hk : JD (a, b, c, d, e) with
  | false => rfl
  | true =>
   obtain ⟨h1, h2, h3, h4⟩ := wd h
   obtain ⟨g0, g1, g2⟩ := y2L h hk
   have hNS := y0X (Qu h hk)
   have hnf := ZF (Qu h hk)
   have hP := y54 h hk
   have hJ := y75 (yC q t (a, b, c, d, e)).2.length (yC q t (a, b, c, d, e)).1 (yC q t (a, b, c, d, e)).2 hP.1
   have ern : yg t (zo q (a, b, c, d, e) : Int) = t.getD (zo q (a, b, c, d, e)) yB := by
    show t.getD ((zo q (a, b, c, d, e) : Int)).toNat yB = _
    rw [Int.toNat_natCast]
   have erq : zC q (zo q (a, b, c, d, e) : Int) = q.getD (zo q (a, b, c, d, e)) 0 := by
    show q.getD ((zo q (a, b, c, d, e) : Int)).toNat 0 = _
    rw [Int.toNat_natCast]
   have hfin : ∀ p : List Int × List y0, p = yC q t (a, b, c, d, e) → (Option.bind (YU (p.1, p.2)) fun r15 => Option.bind (Y9 (r15.1, r15.2)) fun r16 => bif (!r16) then some (q, t, false) else some (r15.1, r15.2, true)) = some (if Ys (wA (yC q t (a, b, c, d, e)).2.length (yC q t (a, b, c, d, e)).1 (yC q t (a, b, c, d, e)).2).1 (wA (yC q t (a, b, c, d, e)).2.length (yC q t (a, b, c, d, e)).1 (yC q t (a, b, c, d, e)).2).2 = true then ((wA (yC q t (a, b, c, d, e)).2.length (yC q t (a, b, c, d, e)).1 (yC q t (a, b, c, d, e)).2).1, (wA (yC q t (a, b, c, d, e)).2.length (yC q t (a, b, c, d, e)).1 (yC q t (a, b, c, d, e)).2).2, true) else (q, t, false)) := by
    rintro p rfl
    simp only [y8q _ _ hP.1 hP.2, Option.bind_some, V3 _ _ hJ.ok]
    cases Ys (wA (yC q t (a, b, c, d, e)).2.length (yC q t (a, b, c, d, e)).1 (yC q t (a, b, c, d, e)).2).1 (wA (yC q t (a, b, c, d, e)).2.length (yC q t (a, b, c, d, e)).1 (yC q t (a, b, c, d, e)).2).2 <;> rfl
   simp only [Bool.not_true, cond_false, Option.bind_some, Qs q t a b hq, show Kg q (wO a b) q.length = (zo q (a, b, c, d, e) : Int) from g0, ern, erq, Bool.and_self, if_true]
   rw [if_pos (by omega), if_pos (by omega), Qt _ a b c d e hNS]
   simp only [Option.bind_some]
   rw [if_pos (by omega), if_pos (by omega), VX q t _ _ _ (by omega) (by omega) (by omega) (by omega) (by omega) (by simp) (by simp)]
   simp only [Option.bind_some, Int.toNat_natCast]
   cases hm : (zr (t.getD (zo q (a, b, c, d, e)) yB) (a, b, c, d, e)).2 with
   | false =>
    have hh := y9J h hk hm
    have hkn := (hNS.keys)
    have hsl := JA (yZ (t.getD (zo q (a, b, c, d, e)) yB)) (a, b, c, d, e)
    have e1 : zS (JC (yZ (t.getD (zo q (a, b, c, d, e)) yB)) (a, b, c, d, e)) = some (jt (t.getD (zo q (a, b, c, d, e)) yB) (a, b, c, d, e)) := Qn _ (by omega)
    have hput := yC.eq_1 q t (a, b, c, d, e)
    rw [if_pos hm] at hput
    generalize hW : jt (t.getD (zo q (a, b, c, d, e)) yB) (a, b, c, d, e) = W at hh e1 hput
    have hwr : Go.IntKind.wrap .i64 (Int.tdiv (Go.IntKind.wrap .i64 (((List.length W : Nat) : Int) + (1 : Int))) (2 : Int)) = (Ko W : Int) := by
     rw [w64 (n := ((List.length W : Nat) : Int) + 1) (by omega) (by omega), Int.tdiv_eq_ediv_of_nonneg (by omega)]
     unfold Ko
     rw [w64 (by omega) (by omega)]
     omega
    simp only [Bool.not_false, cond_true, YO _ (Nat.le_trans hNS.len (by decide)) (Int.le_trans hNS.sum (by decide)), w9 _ a b c d e (show (yZ (t.getD (zo q (a, b, c, d, e)) yB)).length ≤ 1073741824 by omega), e1, Option.bind_some, hwr, Int.toNat_natCast]
    rw [if_pos (by omega), if_pos (by omega), if_pos (by omega), if_pos (by omega), if_pos (by omega), if_pos (by omega)]
    have e2 : Jk ((y8 W (Ko W : Int)).1, (y8 W (Ko W : Int)).2.1, (y8 W (Ko W : Int)).2.2.1, (y8 W (Ko W : Int)).2.2.2.1, (y8 W (Ko W : Int)).2.2.2.2) = some (y9C (W.getD (Ko W) yL)) := by
     have e3 : y8 W (Ko W : Int) = W.getD (Ko W) yL := by
      show W.getD ((Ko W : Int)).toNat yL = _
      rw [Int.toNat_natCast]
     rw [e3]
     rfl
    rw [e2]
    simp only [Option.bind_some]
    rw [if_pos (by omega), if_pos (by omega), if_pos (by omega), ZE _ (by simp only [List.length_drop, List.length_take]; omega)]
    simp only [Option.bind_some]
    rw [if_pos (by omega), if_pos (by omega), if_pos (by omega), ZE _ (by simp only [List.length_drop, List.length_take]; omega)]
    simp only [Option.bind_some]
    rw [VX q t _ _ _ (by omega) (by omega) (by omega) (by omega) (by omega) (by simp) (by simp)]
    simp only [Option.bind_some, Int.toNat_natCast, List.take_length]
    exact hfin _ hput.symm
   | true =>
    have hP2 := y1n (a, b, c, d, e) hNS (by omega)
    have hnm : ¬ (zr (t.getD (zo q (a, b, c, d, e)) yB) (a, b, c, d, e)).2 = false := by rw [hm]; simp
    simp only [Bool.not_true, cond_false, YO _ (Nat.le_trans hP2.len (by decide)) (Int.le_trans hP2.sum (by decide)), Option.bind_some]
    have hput := yC.eq_1 q t (a, b, c, d, e)
    rw [if_neg hnm] at hput
    have h3 : (bif decide ((zo q (a, b, c, d, e) : Int) > 0) then some (((List.length (yZ (zr (t.getD (zo q (a, b, c, d, e)) yB) (a, b, c, d, e)).1) : Nat) : Int) == 0) else some false) = some (decide (0 < zo q (a, b, c, d, e) ∧ (yZ (zr (t.getD (zo q (a, b, c, d, e)) yB) (a, b, c, d, e)).1).length = 0)) := by
     by_cases i0 : 0 < zo q (a, b, c, d, e)
     ·rw [decide_eq_true (show (zo q (a, b, c, d, e) : Int) > 0 by omega), cond_true]
      congr 1
      by_cases i1 : (yZ (zr (t.getD (zo q (a, b, c, d, e)) yB) (a, b, c, d, e)).1).length = 0
      ·rw [decide_eq_true ⟨i0, i1⟩]
       exact beq_iff_eq.2 (by omega)
      ·rw [decide_eq_false (fun hh => i1 hh.2)]
       exact beq_eq_false_iff_ne.2 (by omega)
     ·rw [decide_eq_false (show ¬ (zo q (a, b, c, d, e) : Int) > 0 by omega), decide_eq_false (fun hh => i0 hh.1)]
      rfl
    rw [h3]
    simp only [Option.bind_some]
    by_cases hz : 0 < zo q (a, b, c, d, e) ∧ (yZ (zr (t.getD (zo q (a, b, c, d, e)) yB) (a, b, c, d, e)).1).length = 0
    ·rw [if_pos hz] at hput
     rw [decide_eq_true hz, cond_true, VX q t _ _ _ (by omega) (by omega) (by omega) (by omega) (by omega) (by simp) (by simp)]
     simp only [Option.bind_some, Int.toNat_natCast]
     exact hfin _ hput.symm
    ·rw [if_neg hz] at hput
     rw [decide_eq_false hz, cond_false]
     rw [y51 q _ _ (by omega), y51 t _ _ (by omega)]
     refine hfin (q.set (zo q (a, b, c, d, e)) (q.getD (zo q (a, b, c, d, e)) 0), t.set (zo q (a, b, c, d, e)) (zr (t.getD (zo q (a, b, c, d, e)) yB) (a, b, c, d, e)).1) ?_
     rw [hput, y0j _ _ _ (by omega), List.set_getElem_self]
theorem y3E (q : List Int) (t : List y0) (a b c d e : Int) (hT : TOk t) (hQ : ∀ n ∈ t, y21 n) (hq : q.length ≤ 1048576) : jp (q, t, a, b, c, d, e) = some (yJ q t (a, b, c, d, e)) := by
 unfold jp yJ
 simp only [Ke q t hq hT.len hQ, V4 q t hT, y0P, Option.bind_some]
 cases h : Ys q t with
 | false => rfl
 | true =>
  cases hk : JD (a, b, c, d, e) with
  | false => rfl
  | true =>
   obtain ⟨h1, h2, h3, h4⟩ := wd h
   obtain ⟨g0, g1, g2⟩ := y2L h hk
   have hNS := y0X (Qu h hk)
   have hnf := ZF (Qu h hk)
   have hP := y54 h hk
   have hJ := y75 (yC q t (a, b, c, d, e)).2.length (yC q t (a, b, c, d, e)).1 (yC q t (a, b, c, d, e)).2 hP.1
   have ern : yg t (zo q (a, b, c, d, e) : Int) = t.getD (zo q (a, b, c, d, e)) yB := by
    show t.getD ((zo q (a, b, c, d, e) : Int)).toNat yB = _
    rw [Int.toNat_natCast]
   have erq : zC q (zo q (a, b, c, d, e) : Int) = q.getD (zo q (a, b, c, d, e)) 0 := by
    show q.getD ((zo q (a, b, c, d, e) : Int)).toNat 0 = _
    rw [Int.toNat_natCast]
   have hfin : ∀ p : List Int × List y0, p = yC q t (a, b, c, d, e) → (Option.bind (Z1 (p.1, p.2)) fun r15 => Option.bind (Yb (r15.1, r15.2)) fun r16 => bif (!r16) then some (q, t, false) else some (r15.1, r15.2, true)) = some (if Ys (wA (yC q t (a, b, c, d, e)).2.length (yC q t (a, b, c, d, e)).1 (yC q t (a, b, c, d, e)).2).1 (wA (yC q t (a, b, c, d, e)).2.length (yC q t (a, b, c, d, e)).1 (yC q t (a, b, c, d, e)).2).2 = true then ((wA (yC q t (a, b, c, d, e)).2.length (yC q t (a, b, c, d, e)).1 (yC q t (a, b, c, d, e)).2).1, (wA (yC q t (a, b, c, d, e)).2.length (yC q t (a, b, c, d, e)).1 (yC q t (a, b, c, d, e)).2).2, true) else (q, t, false)) := by
    rintro p rfl
    simp only [y4f _ _ hP.1 hP.2, Option.bind_some, V4 _ _ hJ.ok]
    cases Ys (wA (yC q t (a, b, c, d, e)).2.length (yC q t (a, b, c, d, e)).1 (yC q t (a, b, c, d, e)).2).1 (wA (yC q t (a, b, c, d, e)).2.length (yC q t (a, b, c, d, e)).1 (yC q t (a, b, c, d, e)).2).2 <;> rfl
   simp only [Bool.not_true, cond_false, Option.bind_some, y3A q t a b hq, show Kg q (wO a b) q.length = (zo q (a, b, c, d, e) : Int) from g0, ern, erq, Bool.and_self, if_true]
   rw [if_pos (by omega), if_pos (by omega), y3C _ a b c d e hNS]
   simp only [Option.bind_some, Int.toNat_natCast]
   cases hm : (zr (t.getD (zo q (a, b, c, d, e)) yB) (a, b, c, d, e)).2 with
   | false =>
    have hh := y9J h hk hm
    have e1 : zJ (t.getD (zo q (a, b, c, d, e)) yB, a, b, c, d, e) = some (jt (t.getD (zo q (a, b, c, d, e)) yB) (a, b, c, d, e)) := qy _ a b c d e hNS
    have hput := yC.eq_1 q t (a, b, c, d, e)
    rw [if_pos hm] at hput
    generalize hW : jt (t.getD (zo q (a, b, c, d, e)) yB) (a, b, c, d, e) = W at hh e1 hput
    have hwr : Go.IntKind.wrap .i64 (Int.tdiv (Go.IntKind.wrap .i64 (((List.length W : Nat) : Int) + (1 : Int))) (2 : Int)) = (Ko W : Int) := by
     rw [w64 (n := ((List.length W : Nat) : Int) + 1) (by omega) (by omega), Int.tdiv_eq_ediv_of_nonneg (by omega)]
     unfold Ko
     rw [w64 (by omega) (by omega)]
     omega
    simp only [Bool.not_false, cond_true, e1, Option.bind_some, hwr, Int.toNat_natCast]
    rw [if_pos (by omega), if_pos (by omega), if_pos (by omega), if_pos (by omega), if_pos (by omega), if_pos (by omega)]
    have e2 : YZ ((y8 W (Ko W : Int)).1, (y8 W (Ko W : Int)).2.1) = some (y9C (W.getD (Ko W) yL)) := by
     have e3 : y8 W (Ko W : Int) = W.getD (Ko W) yL := by
      show W.getD ((Ko W : Int)).toNat yL = _
      rw [Int.toNat_natCast]
     rw [e3]
     rfl
    rw [e2]
    simp only [Option.bind_some]
    rw [if_pos (by omega), if_pos (by omega), if_pos (by omega), Je _ (by simp only [List.length_drop, List.length_take]; omega)]
    simp only [Option.bind_some]
    rw [if_pos (by omega), if_pos (by omega), if_pos (by omega), Je _ (by simp only [List.length_drop, List.length_take]; omega)]
    simp only [Option.bind_some]
    rw [Kh q t _ 1 _ _ (by omega) (by decide) (by omega) (by omega) (by omega) (by omega) (by simp) (by simp)]
    simp only [Option.bind_some, Int.toNat_natCast, List.take_length]
    exact hfin _ hput.symm
   | true =>
    have hP2 := y1n (a, b, c, d, e) hNS (by omega)
    have hnm : ¬ (zr (t.getD (zo q (a, b, c, d, e)) yB) (a, b, c, d, e)).2 = false := by rw [hm]; simp
    simp only [Bool.not_true, cond_false, jh _ (Nat.le_trans hP2.len (by decide)) (Int.le_trans hP2.sum (by decide)), Option.bind_some]
    have hput := yC.eq_1 q t (a, b, c, d, e)
    rw [if_neg hnm] at hput
    have h3 : (bif decide ((zo q (a, b, c, d, e) : Int) > 0) then some (((List.length (yZ (zr (t.getD (zo q (a, b, c, d, e)) yB) (a, b, c, d, e)).1) : Nat) : Int) == 0) else some false) = some (decide (0 < zo q (a, b, c, d, e) ∧ (yZ (zr (t.getD (zo q (a, b, c, d, e)) yB) (a, b, c, d, e)).1).length = 0)) := by
     by_cases i0 : 0 < zo q (a, b, c, d, e)
     ·rw [decide_eq_true (show (zo q (a, b, c, d, e) : Int) > 0 by omega), cond_true]
      congr 1
      by_cases i1 : (yZ (zr (t.getD (zo q (a, b, c, d, e)) yB) (a, b, c, d, e)).1).length = 0
      ·rw [decide_eq_true ⟨i0, i1⟩]
       exact beq_iff_eq.2 (by omega)
      ·rw [decide_eq_false (fun hh => i1 hh.2)]
       exact beq_eq_false_iff_ne.2 (by omega)
     ·rw [decide_eq_false (show ¬ (zo q (a, b, c, d, e) : Int) > 0 by omega), decide_eq_false (fun hh => i0 hh.1)]
      rfl
    rw [h3]
    simp only [Option.bind_some]
    by_cases hz : 0 < zo q (a, b, c, d, e) ∧ (yZ (zr (t.getD (zo q (a, b, c, d, e)) yB) (a, b, c, d, e)).1).length = 0
    ·rw [if_pos hz] at hput
     rw [decide_eq_true hz, cond_true, Kh q t _ 1 _ _ (by omega) (by decide) (by omega) (by omega) (by omega) (by omega) (by simp) (by simp)]
     simp only [Option.bind_some, Int.toNat_natCast]
     exact hfin _ hput.symm
    ·rw [if_neg hz] at hput
     rw [decide_eq_false hz, cond_false, if_pos (by omega), if_pos (by omega)]
     exact hfin _ hput.symm
end Go.Proofs.YthgdjjdigalckaaGreat.Pl
namespace Go.Proofs.YthgdjjdigalckaaGreat.Pl
open Go.Proofs.YthgdjjdigalckaaGreat.R Go.Proofs.YthgdjjdigalckaaGreat.XT
def y0Y (fr id : Int) (x : yd) : yd := if (x.2 == id) = true then (x.1, fr) else x
def yzx (l : List yd) (i : Nat) (id : Int) : List yd := (l.map (y0Y (l.getD i YI).2 id)).eraseIdx i
def y3F (l : List yd) (id : Int) : List yd × Bool := if Yp l id < 0 then (l, false) else if WH l = true then (yzx l (Yp l id).toNat id, true) else (l, false)
theorem y2M {A : Type} (p : A → Bool) : ∀ (l : List A) (i : Int), Y7 p l i = -1 ∨ i ≤ Y7 p l i ∧ Y7 p l i < i + l.length
 | [], _ => .inl rfl
 | a :: l, i => by
  rw [Y7]
  split
  ·refine .inr ⟨Int.le_refl _, by simp only [List.length_cons]; omega⟩
  ·rcases y2M p l (i + 1) with h | ⟨h1, h2⟩
   ·exact .inl h
   ·exact .inr ⟨by omega, by simp only [List.length_cons]; omega⟩
theorem y4g (l : List yd) (id : Int) (hl : l.length ≤ 1048576) : Js (l, id) = some (y3F l id) := by
 unfold Js y3F
 simp only [Z5 l id (by omega), kC l hl, Option.bind_some]
 by_cases h0 : Yp l id < 0
 ·rw [decide_eq_true h0, if_pos h0]
  simp only [cond_true, Option.bind_some]
  rw [if_pos (by simp only [List.length_nil]; omega)]
  rfl
 ·rw [decide_eq_false h0, if_neg h0]
  cases hA : WH l with
  | false =>
   simp only [cond_false, Bool.not_false, Option.bind_some, cond_true]
   rw [if_pos (by simp only [List.length_nil]; omega)]
   rfl
  | true =>
   simp only [cond_false, Bool.not_true, Option.bind_some, if_true]
   have hi1 : Yp l id < (l.length : Int) := by
    rcases y2M (fun a : yd => a.1 == id) l 0 with h | ⟨h1, h2⟩
    ·have : Yp l id = -1 := h
     omega
    ·have : Yp l id = Y7 (fun a : yd => a.1 == id) l 0 := rfl
     omega
   generalize Yp l id = i at h0 hi1
   unfold Q4
   have key := Yo (step := Wd (fun x4 => some (x4, true))) (fun x : List yd × Int × Int × Int × List yd => l.length - x.2.2.2.1.toNat) (fun x => x.1 = l ∧ x.2.1 = id ∧ x.2.2.1 = i ∧ 0 ≤ x.2.2.2.1 ∧ x.2.2.2.1 ≤ (l.length : Int) ∧ x.2.2.2.2.length ≤ x.2.2.2.1.toNat)
    (fun x => some (x.2.2.2.2 ++ (if x.2.2.2.1 ≤ i then ((l.drop x.2.2.2.1.toNat).map (y0Y (l.getD i.toNat YI).2 id)).eraseIdx (i - x.2.2.2.1).toNat else (l.drop x.2.2.2.1.toNat).map (y0Y (l.getD i.toNat YI).2 id)), true)) ?_ (l, id, i, 0, []) ⟨rfl, rfl, rfl, Int.le_refl _, by simp, by simp⟩ (by simp; omega)
   ·rw [key]
    simp only [List.nil_append]
    rw [if_pos (by omega), Int.sub_zero]
    rfl
   ·rintro again ⟨l', id', i', j, o⟩ ⟨rfl, rfl, rfl, j0, j1, ho⟩ hag
    simp only at j0 j1 ho hl hi1 h0 ⊢
    unfold Wd
    by_cases hj : j < (l'.length : Int)
    ·have hw : Go.IntKind.wrap .i64 (j + 1) = j + 1 := w64 (by omega) (by omega)
     have hd := w8 YI l' j j0 hj
     have e1 : (j + 1).toNat = j.toNat + 1 := by omega
     have hlen : ∀ y : yd, (List.length o + List.length ([y] : List yd)) * 16 < 140737488355328 := fun y => by simp only [List.length_cons, List.length_nil]; omega
     have hstep : ∀ y, y = y0Y (l'.getD i'.toNat YI).2 id' (l'.getD j.toNat YI) → (bif (j != i') then if (List.length o + List.length ([y] : List yd)) * 16 < 140737488355328 then again (l', id', i', j + 1, o ++ [y]) else none else again (l', id', i', j + 1, o)) = some (o ++ (if j ≤ i' then ((l'.drop j.toNat).map (y0Y (l'.getD i'.toNat YI).2 id')).eraseIdx (i' - j).toNat else (l'.drop j.toNat).map (y0Y (l'.getD i'.toNat YI).2 id')), true) := by
      rintro y rfl
      rw [hd, List.map_cons]
      by_cases hji : j = i'
      ·rw [show (j != i') = false by simp [hji], cond_false, if_pos (by omega), show (i' - j).toNat = 0 by omega, List.eraseIdx_zero, List.tail_cons]
       have := hag (l', id', i', j + 1, o) ⟨rfl, rfl, rfl, by simp only; omega, by simp only; omega, by simp only; omega⟩ (by simp only; omega)
       rw [this]
       simp only
       rw [if_neg (by omega)]
      ·rw [show (j != i') = true by simpa using hji, cond_true, if_pos (hlen _)]
       have := hag (l', id', i', j + 1, o ++ [y0Y (l'.getD i'.toNat YI).2 id' (l'.getD j.toNat YI)]) ⟨rfl, rfl, rfl, by simp only; omega, by simp only; omega, by simp only [List.length_append, List.length_cons, List.length_nil]; omega⟩ (by simp only; omega)
       rw [this]
       simp only
       by_cases hlt : j ≤ i'
       ·rw [if_pos hlt, if_pos (by omega), show (i' - j).toNat = (i' - (j + 1)).toNat + 1 by omega, List.eraseIdx_cons_succ, List.append_assoc]
        rfl
       ·rw [if_neg hlt, if_neg (by omega), List.append_assoc]
        rfl
     have hrd : yK l' j = l'.getD j.toNat YI := rfl
     simp only [hw]
     rw [decide_eq_true hj, cond_true, if_pos j0, if_pos hj]
     by_cases hid : (l'.getD j.toNat YI).2 = id'
     ·have hb : ((yK l' j).2 == id') = true := beq_iff_eq.2 hid
      rw [hb, cond_true, if_pos (by omega), if_pos hi1]
      exact hstep _ (by unfold y0Y; rw [if_pos (beq_iff_eq.2 hid)]; rfl)
     ·have hb : ((yK l' j).2 == id') = false := beq_eq_false_iff_ne.2 hid
      rw [hb, cond_false]
      exact hstep _ (by unfold y0Y; rw [if_neg (by simpa using hid)]; rfl)
    ·rw [decide_eq_false hj, cond_false, List.drop_of_length_le (by omega)]
     simp
def y22 (cs : List y9) (i : Int) : List y9 := if zA cs = true ∧ 0 ≤ i ∧ i ≤ 23 ∧ (cs.getD i.toNat yS).2.1 = true then cs.set i.toNat (Int.tmod (Go.IntKind.wrap .i64 ((cs.getD i.toNat yS).1 + 1)) 1000, false, 0) else cs
theorem Qv (cs : List y9) (i : Int) : (y22 cs i).length = cs.length := by
 unfold y22
 split
 ·simp
 ·rfl
theorem y76 {cs : List y9} (h : zA cs = true) : cs.length = 24 := by
 unfold zA at h
 simp only [Bool.and_eq_true, beq_iff_eq] at h
 omega
theorem QK {cs : List y9} {i : Int} (h : ¬ (zA cs = true ∧ 0 ≤ i ∧ i ≤ 23 ∧ (cs.getD i.toNat yS).2.1 = true)) : y22 cs i = cs := if_neg h
theorem y8r {cs : List y9} {i : Int} (h : zA cs = true ∧ 0 ≤ i ∧ i ≤ 23 ∧ (cs.getD i.toNat yS).2.1 = true) : y22 cs i = cs.set i.toNat (Int.tmod (Go.IntKind.wrap .i64 ((cs.getD i.toNat yS).1 + 1)) 1000, false, 0) := if_pos h
theorem ji (cs : List y9) (i : Int) (hc : cs.length ≤ 1048576) : YA (cs, i) = some (y22 cs i) := by
 have e1 : zR cs = some cs := by
  unfold zR
  rw [if_pos (by simp only [List.length_nil]; omega)]
  rfl
 unfold YA
 simp only [e1, Jc cs hc, Yr, Option.bind_some]
 cases hk : zA cs with
 | false =>
  rw [QK fun h => by rw [hk] at h; cases h.1]
  rfl
 | true =>
  have h24 := y76 hk
  have hw : Go.IntKind.wrap .i64 ((cs.length : Int) - 1) = 23 := by rw [w64 (by omega) (by omega)]; omega
  simp only [hw, cond_true, Option.bind_some]
  cases hi : inR i 0 23 with
  | false =>
   have : ¬ (0 ≤ i ∧ i ≤ 23) := fun h => by rw [zZ.2 h] at hi; cases hi
   rw [QK fun h => this ⟨h.2.1, h.2.2.1⟩]
   rfl
  | true =>
   obtain ⟨i0, i1⟩ := zZ.1 hi
   rw [cond_true, if_pos i0, if_pos (by omega)]
   have hrd : yj cs i = cs.getD i.toNat yS := rfl
   rw [hrd]
   cases hu : (cs.getD i.toNat yS).2.1 with
   | false =>
    rw [QK fun h => by have := h.2.2.2; rw [hu] at this; cases this]
    rfl
   | true =>
    simp only [Option.bind_some, cond_true]
    rw [if_pos i0, if_pos (by omega), if_pos i0, if_pos (by omega), y8r ⟨hk, i0, i1, hu⟩]
theorem y23 (cs : List y9) (i : Int) (hc : cs.length ≤ 1048576) : Zu (cs, i) = some (y22 cs i) := by
 have e1 : zv cs = some cs := by
  unfold zv
  rw [if_pos (by simp only [List.length_nil]; omega)]
  rfl
 unfold Zu
 simp only [e1, vm cs hc, Z6, Option.bind_some]
 cases hk : zA cs with
 | false =>
  rw [QK fun h => by rw [hk] at h; cases h.1]
  rfl
 | true =>
  have h24 := y76 hk
  simp only [Bool.not_true, cond_false, Option.bind_some]
  cases hi : inR i 0 23 with
  | false =>
   have : ¬ (0 ≤ i ∧ i ≤ 23) := fun h => by rw [zZ.2 h] at hi; cases hi
   rw [QK fun h => this ⟨h.2.1, h.2.2.1⟩]
   rfl
  | true =>
   obtain ⟨i0, i1⟩ := zZ.1 hi
   rw [Bool.not_true, cond_false, if_pos i0, if_pos (by omega)]
   have hrd : yj cs i = cs.getD i.toNat yS := rfl
   rw [hrd]
   cases hu : (cs.getD i.toNat yS).2.1 with
   | false =>
    rw [QK fun h => by have := h.2.2.2; rw [hu] at this; cases this]
    rfl
   | true =>
    simp only [Option.bind_some, Bool.not_true, cond_false]
    rw [if_pos i0, if_pos (by omega), if_pos i0, if_pos (by omega), y8r ⟨hk, i0, i1, hu⟩]
end Go.Proofs.YthgdjjdigalckaaGreat.Pl
namespace Go.Proofs.YthgdjjdigalckaaGreat.Pl
open Go.Proofs.YthgdjjdigalckaaGreat.R Go.Proofs.YthgdjjdigalckaaGreat.XT
def ydr (l : List yd) (vs : List ym) (id : Int) : Bool := y8m vs id && ((Yi l id).length : Int) == 1
def jz (q : List Int) (t : List y0) (l : List yd) (vs : List ym) (step : Int) (k : ya) : Bool :=
 if step = 1 then !y9B t l vs k else if step = 2 then (k.2.2.1 == 2) && !(yaM t l k.1 k.2.1).1 else
  ydr l vs k.2.1 && !(kq q t k.1 ((Yi l k.2.1).getD 0 0)).2.2.2.2.2
theorem yfv (l : List yd) (id : Int) : ∀ x ∈ Yi l id, ∃ a ∈ l, a.1 = x := by
 have : ∀ (l : List yd) (s : List Int) (x : Int), x ∈ l.foldl (Qp id) s → x ∈ s ∨ ∃ a ∈ l, a.1 = x := by
  intro l
  induction l with
  | nil => intro s x h; exact .inl h
  | cons a l ih =>
   intro s x h
   rw [List.foldl_cons] at h
   rcases ih _ x h with h | ⟨b, hb, e⟩
   ·unfold Qp at h
    split at h
    ·rcases List.mem_append.1 h with h | h
     ·exact .inl h
     ·exact .inr ⟨a, by simp, (by simpa using h : x = a.1).symm⟩
    ·exact .inl h
   ·exact .inr ⟨b, by simp [hb], e⟩
 intro x hx
 rcases this l [] x hx with h | h
 ·simp at h
 ·exact h
theorem yaQ {A : Type} {p : A → Bool} : ∀ (l : List A) (i : Int), Yh (fun _ a => p a) l i = false → ∀ a ∈ l, p a = false
 | b :: l, i, h, a, ha => by
  rw [Yh, Bool.or_eq_false_iff] at h
  rcases List.mem_cons.1 ha with rfl | ha
  ·exact h.1
  ·exact yaQ l (i + 1) h.2 a ha
theorem yfw {l : List yd} (h : WH l = true) : ∀ a ∈ l, 1 ≤ a.1 := by
 unfold WH y89 at h
 simp only [Bool.and_eq_true, Bool.not_eq_true'] at h
 have h1 := h.1
 rw [y9A, Bool.or_eq_false_iff] at h1
 intro a ha
 have := yaQ (p := fun a : yd => !inR a.1 1 60) l 0 h1.1 a ha
 simp only [Bool.not_eq_false'] at this
 exact (zZ.1 this).1
section
variable (q : List Int) (t : List y0) (l : List yd) (cs : List y9) (vs : List ym) (z : Int)
theorem y3G (ht : TOk t) (hq : q.length ≤ 1048576) (hl : l.length ≤ 1048576) (hv : vs.length ≤ 1048576) (hpos : ∀ a ∈ l, 1 ≤ a.1) (step : Int) (k1 k2 k3 k4 k5 : Int) : Wa (q, t, l, cs, vs, z, step, k1, k2, k3, k4, k5) = some (jz q t l vs step (k1, k2, k3, k4, k5)) := by
 unfold Wa jz
 simp only [Bool.cond_eq_ite, beq_iff_eq, y1k q t l cs vs z k1 k2 k3 k4 k5 ht hl hv, y0S q t l k1 k2 ht hl, Option.bind_some]
 by_cases h1 : step = 1
 ·simp only [h1, if_true]
 by_cases h2 : step = 2
 ·subst h2
  simp only [if_true, if_neg (show ¬ (2 : Int) = 1 by omega)]
  by_cases h3 : k3 = 2
  ·have : (k3 == 2) = true := by simp [h3]
   rw [this, if_pos h3]
   rfl
  ·have : (k3 == 2) = false := by simpa using h3
   rw [this, if_neg h3]
   rfl
 simp only [h1, h2, if_false]
 unfold kz YW ydr
 simp only [kD l k2 hl, Qr q t l cs vs z k2 hv, Option.bind_some]
 cases y8m vs k2
 ·rfl
 by_cases hk : ((Yi l k2).length : Int) = 1
 ·have g1 : (((Yi l k2).length : Int) != 1) = false := by simp [hk]
  have g2 : (((Yi l k2).length : Int) == 1) = true := by simp [hk]
  have hlt : (0 : Int) < ((Yi l k2).length : Int) := by omega
  have hne : ((Yi l k2).getD 0 0 == 0) = false := by
   have hm : (Yi l k2).getD 0 0 ∈ Yi l k2 := zi 0 (Yi l k2) 0 (Int.le_refl _) hlt
   obtain ⟨a, ha, e⟩ := yfv l k2 _ hm
   have := hpos a ha
   simp only [beq_eq_false_iff_ne, ne_eq]
   omega
  have hx : zC (Yi l k2) 0 = (Yi l k2).getD 0 0 := rfl
  simp only [g1, g2, hlt, Bool.not_true, cond_false, cond_true, Option.bind_some, Int.le_refl, if_true, hx, hne, kG q t k1 _ ht hq, Bool.true_and, Bool.and_self, Bool.and_true, Bool.true_and]
 ·have g1 : (((Yi l k2).length : Int) != 1) = true := by simpa using hk
  have g2 : (((Yi l k2).length : Int) == 1) = false := by simpa using hk
  simp only [g1, g2]
  rfl
def yfx (id : Int) (_ : Int) (k : ya) : Bool := k.2.1 == id
def ykS (ks : List ya) (l : List yd) (vs : List ym) (a : yd) : Bool := !Yh (yfx a.1) ks 0 && (y8m vs a.1 && decide (((Yi l a.1).length : Int) ≤ 1))
theorem y9K (ht : TOk t) (hl : l.length ≤ 1048576) (hv : vs.length ≤ 1048576) (a : yd) : Wb (q, t, l, cs, vs, z, a.1) = some (ykS (z4 t) l vs a) := by
 unfold Wb Q3 ykS
 have hk := ht.keys
 have e : yG (q, t) = some (z4 t) := zY q t (by have := ht.len; omega) ht.nodes ht.sum
 simp only [e, Option.bind_some]
 generalize z4 t = ks at hk
 refine (zK (step := jR _ _) (fun i => (a.1, i, q, t, l, cs, vs, z, ks)) (yfx a.1) (some false) (some (y8m vs a.1 && decide (((Yi l a.1).length : Int) ≤ 1))) yL ks (by omega) ?_ ?_).trans ?_
 ·intro again i h0 h1
  have hw : Go.IntKind.wrap .i64 (i + 1) = i + 1 := w64 (by omega) (by omega)
  unfold jR yfx
  have hx : ks.getD i.toNat yL = y8 ks i := rfl
  rw [hx]
  simp only [Bool.cond_eq_ite, decide_eq_true_eq, h0, h1, if_true, hw]
 ·intro again i hi
  unfold jR
  simp only [Bool.cond_eq_ite, decide_eq_true_eq, if_neg hi, Qr q t l cs vs z a.1 hv, kD l a.1 hl, Option.bind_some]
  cases y8m vs a.1 <;> rfl
 ·cases Yh (yfx a.1) ks 0 <;> rfl
def y8s (q : List Int) (t : List y0) (l : List yd) (vs : List ym) (_ : Int) (_ : Unit) (step : Int) : Except (Option (Int × Int)) Unit :=
 if Y7 (jz q t l vs step) (z4 t) 0 < 0 then .ok () else .error (some (step, Y7 (jz q t l vs step) (z4 t) 0))
def y2N (t : List y0) (l : List yd) (vs : List ym) : Int × Int :=
 if Y7 (ykS (z4 t) l vs) l 0 < 0 then (0, 0) else (4, Y7 (ykS (z4 t) l vs) l 0)
def y9L (q : List Int) (t : List y0) (l : List yd) (cs : List y9) (vs : List ym) (z : Int) : Option (Int × Int) :=
 if yU q t l cs vs z = true then y7Y (y8s q t l vs) (fun _ => some (y2N t l vs)) ([1, 2, 3] : List Int) 0 () else some (0, 0)
theorem yx7 (i : Int) (h0 : 0 ≤ i) (h1 : i < 3) : ([1, 2, 3] : List Int).getD i.toNat 0 = i + 1 := by
 have : i = 0 ∨ i = 1 ∨ i = 2 := by omega
 rcases this with rfl | rfl | rfl <;> rfl
theorem y8t (ht : TOk t) (hq : q.length ≤ 1048576) (hl : l.length ≤ 1048576) (hc : cs.length ≤ 1048576) (hv : vs.length ≤ 1048576) (hvn : ∀ v ∈ vs, ByteArray.size v.1 ≤ maxLen) : jS (q, t, l, cs, vs, z) = y9L q t l cs vs z := by
 unfold jS y9L
 have hk := ht.keys
 have e : yG (q, t) = some (z4 t) := zY q t (by have := ht.len; omega) ht.nodes ht.sum
 simp only [y06 q t l cs vs z ht hl hc hv hvn, e, Option.bind_some]
 cases hp : yU q t l cs vs z
 ·rfl
 have hpos : ∀ a ∈ l, 1 ≤ a.1 := by
  refine yfw ?_
  unfold yU at hp
  simp only [Bool.and_eq_true] at hp
  exact hp.2.1
 simp only [Bool.not_true, cond_false, if_true]
 unfold Vj
 refine y7Z (step := Zn _ _) (fun i (_ : Unit) => (i + 1, q, t, l, cs, vs, z, z4 t)) (y8s q t l vs) (fun _ => some (y2N t l vs)) 0 ([1, 2, 3] : List Int) (by decide) (fun _ _ => True) (fun again i s h0 h1 _ => ⟨?_, fun _ _ => trivial⟩) ?_ () trivial
 ·have h1' : i < 3 := h1
  rw [yx7 i h0 h1']
  have hw : Go.IntKind.wrap .i64 (i + 1 + 1) = i + 1 + 1 := w64 (by omega) (by omega)
  unfold Zn y8s
  have hle : i + 1 ≤ 3 := by omega
  simp only [Bool.cond_eq_ite, decide_eq_true_eq, hle, if_true]
  unfold Vi
  refine (ZD (step := Zm _ _) (fun j => (i + 1, j, q, t, l, cs, vs, z, z4 t)) (jz q t l vs (i + 1)) (fun j => some (i + 1, j)) (again (i + 1 + 1, q, t, l, cs, vs, z, z4 t)) yL (z4 t) (by omega) ?_ ?_).trans ?_
  ·intro again' j j0 j1
   have hwj : Go.IntKind.wrap .i64 (j + 1) = j + 1 := w64 (by omega) (by omega)
   unfold Zm
   obtain ⟨⟨x1, x2, x3, x4, x5⟩, hx⟩ : ∃ x, y8 (z4 t) j = x := ⟨_, rfl⟩
   have hx' : (z4 t).getD j.toNat yL = (x1, x2, x3, x4, x5) := hx
   rw [hx']
   simp only [Bool.cond_eq_ite, decide_eq_true_eq, j0, j1, if_true, hwj, hx, y3G q t l cs vs z ht hq hl hv hpos (i + 1) x1 x2 x3 x4 x5, Option.bind_some]
  ·intro again' j hj
   unfold Zm
   simp only [Bool.cond_eq_ite, decide_eq_true_eq, if_neg hj, hw]
  ·split <;> rfl
 ·intro again i s hi
  have hi' : ¬ i < 3 := hi
  have hle : ¬ i + 1 ≤ 3 := by omega
  unfold Zn
  simp only [Bool.cond_eq_ite, decide_eq_true_eq, if_neg hle]
  unfold vK y2N
  refine (ZD (step := YX _ _) (fun j => (j, q, t, l, cs, vs, z)) (ykS (z4 t) l vs) (fun j => some (4, j)) (some (0, 0)) YI l (by omega) ?_ ?_).trans ?_
  ·intro again' j j0 j1
   have hwj : Go.IntKind.wrap .i64 (j + 1) = j + 1 := w64 (by omega) (by omega)
   unfold YX
   have hx : l.getD j.toNat YI = yK l j := rfl
   rw [hx]
   simp only [Bool.cond_eq_ite, decide_eq_true_eq, j0, j1, if_true, hwj, y9K q t l cs vs z ht hl hv (yK l j), Option.bind_some]
  ·intro again' j hj
   unfold YX
   simp only [Bool.cond_eq_ite, decide_eq_true_eq, if_neg hj]
  ·split <;> rfl
theorem y8u {S A R : Type} (g : Int → S → A → Except (Option R) S) (k : S → Option R) (hg : ∀ i s a r, g i s a = .error r → ∃ x, r = some x) (hk : ∀ s, ∃ x, k s = some x) : ∀ (l : List A) (i : Int) (s : S), ∃ x, y7Y g k l i s = some x
 | [], i, s => hk s
 | a :: l, i, s => by
  rw [y7Y]
  cases h : g i s a with
  | error r => exact hg i s a r h
  | ok s' => exact y8u g k hg hk l (i + 1) s'
theorem ybJ : ∃ r, y9L q t l cs vs z = some r := by
 unfold y9L
 split
 ·refine y8u _ _ (fun i s a r h => ?_) (fun s => ⟨_, rfl⟩) _ _ _
  unfold y8s at h
  split at h
  ·cases h
  ·injection h with h
   exact ⟨_, h.symm⟩
 ·exact ⟨_, rfl⟩
end
end Go.Proofs.YthgdjjdigalckaaGreat.Pl
namespace Go.Proofs.YthgdjjdigalckaaGreat.Pl
open Go.Proofs.YthgdjjdigalckaaGreat.R Go.Proofs.YthgdjjdigalckaaGreat.XT
structure SP (q : List yf) (t : List y0) (l : List yd) (cs : List y9) (vs : List ym) : Prop where
 S : small q t l cs vs
 N : ∀ v ∈ vs, ByteArray.size v.1 ≤ maxLen
structure TQ (q : List yf) (t : List y0) : Prop where
 T : TOk t
 Q : ∀ n ∈ t, y21 n
 q : q.length ≤ 1048576
theorem SP.tq {q : List yf} {t : List y0} {l : List yd} {cs : List y9} {vs : List ym} (h : SP q t l cs vs) : TQ q t :=
 ⟨⟨h.S.2.1, fun n hn => by have := (wN h.S.2.2.1 hn).1; omega, h.S.2.2.1⟩, fun n hn => wN h.S.2.2.1 hn, h.S.1⟩
theorem TQ.sp {q q' : List yf} {t t' : List y0} {l l' : List yd} {cs cs' : List y9} {vs : List ym} (h : TQ q' t') (h2 : SP q t l cs vs) (hl : l'.length ≤ 1048576) (hc : cs'.length ≤ 1048576) : SP q' t' l' cs' vs :=
 ⟨⟨h.q, h.T.len, h.T.sum, hl, hc, h2.S.2.2.2.2.2⟩, h2.N⟩
theorem TS.tq {q : List yf} {t : List y0} (h : TS t) (hq : q.length ≤ 1048576) : TQ q t := ⟨h.ok, fun n hn => (h.node n hn).q, hq⟩
theorem kt {q : List yf} {t : List y0} (k : ya) (h : TQ q t) : TQ (yJ q t k).1 (yJ q t k).2.1 := by
 unfold yJ
 split
 ·rename_i hh
  rw [Bool.and_eq_true] at hh
  split
  ·rename_i hj
   have hT := vp hj
   have := (wd hj)
   exact hT.tq (by simp only; omega)
  ·exact h
 ·exact h
def y1o (k : ya) : ya := (k.1, k.2.1, 0, 0, 0)
def y3H (q : List yf) (t : List y0) (cs : List y9) (k : ya) : List y9 := if (kq q t k.1 k.2.1).2.2.2.2.2 = true ∧ (kq q t k.1 k.2.1).2.2.1 = 1 then y22 cs (kq q t k.1 k.2.1).2.2.2.1 else cs
theorem y9M (q : List yf) (t : List y0) (cs : List y9) (k : ya) : (y3H q t cs k).length = cs.length := by
 unfold y3H
 split
 ·exact Qv _ _
 ·rfl
abbrev PO : Type := List yf × List y0 × List yd × List y9 × List ym × Int
section
variable (q : List yf) (t : List y0) (l : List yd) (cs : List y9) (vs : List ym) (z : Int)
def Jf (t : List y0) (i : Int) : ya := (z4 t).getD i.toNat yL
def wv (step i : Int) : PO × Bool :=
 if step = 1 ∨ step = 2 then (((yJ q t (y1o (Jf t i))).1, (yJ q t (y1o (Jf t i))).2.1, l, y3H q t cs (Jf t i), vs, z), (yJ q t (y1o (Jf t i))).2.2)
 else if step = 3 then
  (((yJ (yJ q t (y1o (Jf t i))).1 (yJ q t (y1o (Jf t i))).2.1 ((Jf t i).1, (Yi l (Jf t i).2.1).getD 0 0, (Jf t i).2.2)).1,
   (yJ (yJ q t (y1o (Jf t i))).1 (yJ q t (y1o (Jf t i))).2.1 ((Jf t i).1, (Yi l (Jf t i).2.1).getD 0 0, (Jf t i).2.2)).2.1, l, cs, vs, z),
   (yJ q t (y1o (Jf t i))).2.2 && (yJ (yJ q t (y1o (Jf t i))).1 (yJ q t (y1o (Jf t i))).2.1 ((Jf t i).1, (Yi l (Jf t i).2.1).getD 0 0, (Jf t i).2.2)).2.2)
 else ((q, t, (y3F l (l.getD i.toNat YI).1).1, cs, vs, z), (y3F l (l.getD i.toNat YI).1).2)
noncomputable def y9N (p : PO) : Bool := yU p.1 p.2.1 p.2.2.1 p.2.2.2.1 p.2.2.2.2.1 p.2.2.2.2.2
noncomputable def yaR (p : PO) (r : PO × Bool) : PO × Bool := if (r.2 && y9N r.1) = true then (r.1, true) else (p, false)
noncomputable def y55 : PO × Bool := match y9L q t l cs vs z with
 | some (step, i) => if step = 0 then ((q, t, l, cs, vs, z), false) else yaR (q, t, l, cs, vs, z) (wv q t l cs vs z step i)
 | none => ((q, t, l, cs, vs, z), false)
def y3I (r : PO × Bool) : List yf × List y0 × List yd × List y9 × List ym × Int × Bool := (r.1.1, r.1.2.1, r.1.2.2.1, r.1.2.2.2.1, r.1.2.2.2.2.1, r.1.2.2.2.2.2, r.2)
theorem ybK {step i : Int} (h : y9L q t l cs vs z = some (step, i)) : step = 0 ∨ ((step = 1 ∨ step = 2 ∨ step = 3) ∧ 0 ≤ i ∧ i < ((z4 t).length : Int) ∧ jz q t l vs step (Jf t i) = true) ∨ (step = 4 ∧ 0 ≤ i ∧ i < (l.length : Int)) := by
 have hfind : ∀ s, (s = 1 ∨ s = 2 ∨ s = 3) → ¬ Y7 (jz q t l vs s) (z4 t) 0 < 0 → (step, i) = (s, Y7 (jz q t l vs s) (z4 t) 0) → step = 0 ∨ ((step = 1 ∨ step = 2 ∨ step = 3) ∧ 0 ≤ i ∧ i < ((z4 t).length : Int) ∧ jz q t l vs step (Jf t i) = true) ∨ (step = 4 ∧ 0 ≤ i ∧ i < (l.length : Int)) := by
  intro s hs h0 he
  injection he with h1 h2
  subst h1 h2
  rcases wM (jz q t l vs step) yL (z4 t) 0 (Int.le_refl _) with h | ⟨h1, h2, h3⟩
  ·omega
  ·rw [Int.sub_zero] at h3
   exact .inr (.inl ⟨hs, h1, by omega, h3⟩)
 unfold y9L at h
 split at h
 ·simp only [y7Y, y8s] at h
  by_cases h1 : Y7 (jz q t l vs 1) (z4 t) 0 < 0
  ·simp only [if_pos h1] at h
   by_cases h2 : Y7 (jz q t l vs 2) (z4 t) 0 < 0
   ·simp only [if_pos h2] at h
    by_cases h3 : Y7 (jz q t l vs 3) (z4 t) 0 < 0
    ·simp only [if_pos h3] at h
     injection h with h
     unfold y2N at h
     split at h
     ·injection h with h4 h5
      exact .inl h4.symm
     ·rename_i h4
      injection h with h5 h6
      rcases y2M (ykS (z4 t) l vs) l 0 with h | ⟨h7, h8⟩
      ·omega
      ·exact .inr (.inr ⟨h5.symm, by omega, by omega⟩)
    ·simp only [if_neg h3] at h
     injection h with h
     exact hfind 3 (by simp) h3 h.symm
   ·simp only [if_neg h2] at h
    injection h with h
    exact hfind 2 (by simp) h2 h.symm
  ·simp only [if_neg h1] at h
   injection h with h
   exact hfind 1 (by simp) h1 h.symm
 ·injection h with h
  injection h with h1 h2
  exact .inl h1.symm
variable {q t l cs vs} (h : SP q t l cs vs)
include h
theorem yds (step i : Int) : SP (wv q t l cs vs z step i).1.1 (wv q t l cs vs z step i).1.2.1 (wv q t l cs vs z step i).1.2.2.1 (wv q t l cs vs z step i).1.2.2.2.1 (wv q t l cs vs z step i).1.2.2.2.2.1 := by
 have hl := h.S.2.2.2.1
 have hc := h.S.2.2.2.2.1
 unfold wv
 split
 ·exact (kt _ h.tq).sp h hl (by rw [y9M]; exact hc)
 ·split
  ·exact (kt _ (kt _ h.tq)).sp h hl hc
  ·refine h.tq.sp h ?_ hc
   unfold y3F
   split
   ·exact hl
   ·split
    ·unfold yzx
     exact Nat.le_trans (List.length_eraseIdx_le _ _) (by simpa using hl)
    ·exact hl
theorem y8v (a b c d e : Int) : Zd (q, t, l, cs, vs, z, a, b, c, d, e) = some (if (yJ q t (a, b, 0, 0, 0)).2.2 = true then (true, (yJ q t (a, b, 0, 0, 0)).1, (yJ q t (a, b, 0, 0, 0)).2.1, l, y3H q t cs (a, b, c, d, e), vs, z) else (false, q, t, l, cs, vs, z)) := by
 have hq := h.tq
 unfold Zd zx
 simp only [kG q t a b hq.T hq.q, YH q t a b 0 0 0 hq.T hq.Q hq.q, Option.bind_some]
 cases hr : (yJ q t (a, b, 0, 0, 0)).2.2 with
 | false => rfl
 | true =>
  unfold JP y3H
  simp only [Bool.not_true, cond_false, if_true, ji cs _ h.S.2.2.2.2.1, Option.bind_some]
  cases (kq q t a b).2.2.2.2.2 with
  | false => rfl
  | true =>
   by_cases h1 : (kq q t a b).2.2.1 = 1
   ·rw [if_pos ⟨rfl, h1⟩]
    simp only [h1, cond_true, Option.bind_some, beq_self_eq_true]
   ·rw [if_neg fun hh => h1 hh.2]
    simp only [cond_true, Option.bind_some, beq_eq_false_iff_ne.2 h1, cond_false]
theorem zP : yE (q, t, l, cs, vs, z) = some (yU q t l cs vs z) := y06 q t l cs vs z h.tq.T h.S.2.2.2.1 h.S.2.2.2.2.1 h.S.2.2.2.2.2 h.N
theorem V6 : Yc (q, t, l, cs, vs, z) = some (yU q t l cs vs z) := y4d q t l cs vs z h.tq.T h.S.2.2.2.1 h.S.2.2.2.2.1 h.S.2.2.2.2.2 h.N
end
end Go.Proofs.YthgdjjdigalckaaGreat.Pl
namespace Go.Proofs.YthgdjjdigalckaaGreat.Pl
open Go.Proofs.YthgdjjdigalckaaGreat.R Go.Proofs.YthgdjjdigalckaaGreat.XT
def YJ (cs : List y9) : Int := Y7 (fun c : y9 => !c.2.1) cs 0
def y9O (cs : List y9) (n : Int) : List y9 × Int × Bool :=
 if zA cs = true ∧ isW n = true ∧ ¬ YJ cs < 0 then (cs.set (YJ cs).toNat ((cs.getD (YJ cs).toNat yS).1, true, n), YJ cs, true) else (cs, 0, false)
theorem y77 {cs : List y9} (h : ¬ YJ cs < 0) : 0 ≤ YJ cs ∧ YJ cs < (cs.length : Int) ∧ (cs.getD (YJ cs).toNat yS).2.1 = false := by
 rcases wM (fun c : y9 => !c.2.1) yS cs 0 (Int.le_refl _) with h1 | ⟨h1, h2, h3⟩
 ·exact absurd (show YJ cs < 0 by unfold YJ; omega) h
 ·rw [Int.sub_zero] at h3
  refine ⟨h1, by show Y7 (fun c : y9 => !c.2.1) cs 0 < _; omega, ?_⟩
  have : (!(cs.getD (YJ cs).toNat yS).2.1) = true := h3
  simpa using this
theorem y3J (cs : List y9) (n : Int) : (y9O cs n).1.length = cs.length := by
 unfold y9O
 split <;> simp
theorem y07 (cs : List y9) (hc : cs.length ≤ 1048576) : Jw cs = some (YJ cs) := by
 unfold Jw Qj
 refine (ZD (step := J5 _ _) (fun i => (cs, (cs.length : Int), i)) (fun c : y9 => !c.2.1) (fun i => some i) (some (-1)) yS cs (by omega) ?_ ?_).trans ?_
 ·intro again i h0 h1
  have hw : Go.IntKind.wrap .i64 (i + 1) = i + 1 := w64 (by omega) (by omega)
  unfold J5
  have hx : cs.getD i.toNat yS = yj cs i := rfl
  rw [hx]
  simp only [Bool.cond_eq_ite, decide_eq_true_eq, h0, h1, if_true, hw]
 ·intro again i hi
  unfold J5
  simp only [Bool.cond_eq_ite, decide_eq_true_eq, if_neg hi]
 ·unfold YJ
  rcases y2M (fun c : y9 => !c.2.1) cs 0 with h | ⟨h, _⟩
  ·rw [h]
   rfl
  ·rw [if_neg (by omega)]
theorem y8w (cs : List y9) (i : Int) (n : Int) (h0 : 0 ≤ i) (h1 : i < (cs.length : Int)) :
  (List.set (List.set cs (Int.toNat i) ((yj cs i).1, true, (yj cs i).2.2)) (Int.toNat i) ((yj (List.set cs (Int.toNat i) ((yj cs i).1, true, (yj cs i).2.2)) i).1, (yj (List.set cs (Int.toNat i) ((yj cs i).1, true, (yj cs i).2.2)) i).2.1, n)) = cs.set i.toNat ((cs.getD i.toNat yS).1, true, n) := by
 have hr : yj (List.set cs (Int.toNat i) ((yj cs i).1, true, (yj cs i).2.2)) i = ((yj cs i).1, true, (yj cs i).2.2) := by
  show (List.set cs (Int.toNat i) ((yj cs i).1, true, (yj cs i).2.2)).getD i.toNat yS = _
  rw [List.getD_eq_getElem?_getD, List.getElem?_set_self (by omega)]
  rfl
 rw [hr, List.set_set]
 rfl
theorem y1p {cs : List y9} {n : Int} (h : ¬ (zA cs = true ∧ isW n = true ∧ ¬ YJ cs < 0)) : y9O cs n = (cs, 0, false) := if_neg h
theorem y2O {cs : List y9} {n : Int} (h : zA cs = true ∧ isW n = true ∧ ¬ YJ cs < 0) : y9O cs n = (cs.set (YJ cs).toNat ((cs.getD (YJ cs).toNat yS).1, true, n), YJ cs, true) := if_pos h
theorem y24 (cs : List y9) (n : Int) (hc : cs.length ≤ 1048576) : J6 (cs, n) = some (y9O cs n) := by
 have e1 : zv cs = some cs := by
  unfold zv
  rw [if_pos (by simp only [List.length_nil]; omega)]
  rfl
 unfold J6
 simp only [e1, y07 cs hc, y87, vm cs hc, Option.bind_some]
 by_cases hf : YJ cs < 0
 ·rw [y1p fun h => h.2.2 hf]
  simp only [decide_eq_true hf, cond_true, Option.bind_some]
 ·obtain ⟨f0, f1, _⟩ := y77 hf
  simp only [decide_eq_false hf, cond_false, Option.bind_some]
  cases hw : isW n with
  | false =>
   rw [y1p fun h => by rw [hw] at h; exact Bool.noConfusion h.2.1]
   rfl
  | true =>
   simp only [Bool.not_true, cond_false, Option.bind_some]
   cases hk : zA cs with
   | false =>
    rw [y1p fun h => by rw [hk] at h; exact Bool.noConfusion h.1]
    rfl
   | true =>
    rw [y2O ⟨hk, hw, hf⟩]
    simp only [Bool.not_true, cond_false, List.length_set, if_pos f0, if_pos f1, y8w cs _ n f0 f1]
theorem y25 (cs : List y9) (n : Int) (hc : cs.length ≤ 1048576) : zG (cs, n) = some (y9O cs n) := by
 have e1 : zR cs = some cs := by
  unfold zR
  rw [if_pos (by simp only [List.length_nil]; omega)]
  rfl
 unfold zG WZ
 simp only [e1, Option.bind_some]
 by_cases hok : zA cs = true ∧ isW n = true
 ·refine (ZD (step := zw _ _) (fun i => (cs, n, i, cs)) (fun c : y9 => !c.2.1) (fun i => some (cs.set i.toNat ((cs.getD i.toNat yS).1, true, n), i, true)) (some (cs, 0, false)) yS cs (by omega) ?_ ?_).trans ?_
  ·intro again i h0 h1
   have hw : Go.IntKind.wrap .i64 (i + 1) = i + 1 := w64 (by omega) (by omega)
   unfold zw
   have hx : cs.getD i.toNat yS = yj cs i := rfl
   have hs := y8w cs i n h0 h1
   rw [hx] at hs ⊢
   simp only [Bool.cond_eq_ite, decide_eq_true_eq, h0, h1, if_true, hw, Jc cs hc, Vw, hok.1, hok.2, Option.bind_some, List.length_set, hs]
  ·intro again i hi
   unfold zw
   simp only [Bool.cond_eq_ite, decide_eq_true_eq, if_neg hi, Option.bind_some, Bool.false_eq_true, if_false]
  ·show (if YJ cs < 0 then _ else _) = _
   by_cases hf : YJ cs < 0
   ·rw [if_pos hf, y1p fun h => h.2.2 hf]
   ·rw [if_neg hf, y2O ⟨hok.1, hok.2, hf⟩]
    rfl
 ·rw [y1p fun h => hok ⟨h.1, h.2.1⟩]
  refine Yo (step := zw _ _) (fun _ => 0) (fun u => u = (cs, n, 0, cs)) (fun _ => some (cs, 0, false)) ?_ _ rfl (by decide)
  rintro again u rfl _
  unfold zw
  simp only [Jc cs hc, Vw, Option.bind_some]
  cases hk : zA cs with
  | false => cases decide ((0 : Int) < (cs.length : Int)) <;> rfl
  | true =>
   have hw : isW n = false := by
    cases hw : isW n with
    | false => rfl
    | true => exact absurd ⟨hk, hw⟩ hok
   rw [hw]
   cases decide ((0 : Int) < (cs.length : Int)) <;> rfl
def y8x (q : List Int) (t : List y0) (i : Int) : List Int × List y0 := (q, t.set i.toNat (zq (yZ (yg t i))))
theorem y8y (q : List Int) (t : List y0) (i : Int) (h : TS t) (hq : q.length ≤ 1048576) (h0 : 0 ≤ i) (h1 : i < (t.length : Int)) : Zl (q, t, i) = some (y8x q t i) := by
 have ht := h.ok.len
 have hN := nk h h0 h1
 have hk := hN.keys
 have hm : Go.IntKind.wrap .i64 ((t.length : Int) - 1) = (t.length : Int) - 1 := w64 (by omega) (by omega)
 unfold Zl jQ
 simp only [kF q t hq (by omega) (fun n hn => (h.node n hn).q), Yr, hm, Option.bind_some]
 rw [zZ.2 ⟨h0, by omega⟩, cond_true, if_pos h0, if_pos h1, kr h h0 h1]
 simp only [Option.bind_some]
 rw [ZE _ (by omega)]
 simp only [Option.bind_some]
 rw [if_pos h0, if_pos h1]
 rfl
theorem y8z (q : List Int) (t : List y0) (i : Int) (h : TS t) (hq : q.length ≤ 1048576) (h0 : 0 ≤ i) (h1 : i < (t.length : Int)) : J3 (q, t, i) = some (y8x q t i) := by
 have ht := h.ok.len
 have hN := nk h h0 h1
 have hk := hN.keys
 have hm : Go.IntKind.wrap .i64 ((t.length : Int) - 1) = (t.length : Int) - 1 := w64 (by omega) (by omega)
 unfold J3 WF
 simp only [Ke q t hq (by omega) (fun n hn => (h.node n hn).q), Z6, hm, Option.bind_some]
 rw [zZ.2 ⟨h0, by omega⟩, cond_true, if_pos h0, if_pos h1, y0k h h0 h1]
 simp only [Option.bind_some]
 rw [Je _ (by omega)]
 simp only [Option.bind_some]
 rw [if_pos h0, if_pos h1]
 rfl
theorem yky {q : List Int} {t : List y0} (i : Int) (h : TS t) (h0 : 0 ≤ i) (h1 : i < (t.length : Int)) : TS (y8x q t i).2 := by
 have hN := nk h h0 h1
 refine ⟨by simpa [y8x] using h.len, fun n hn => ?_⟩
 rcases List.mem_or_eq_of_mem_set hn with hn | rfl
 ·exact h.node n hn
 ·exact Kq hN.keys
end Go.Proofs.YthgdjjdigalckaaGreat.Pl
