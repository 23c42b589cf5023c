/- Base, Loops, Keys, Pool, Tree, Seen, Rng, Walk, See, Oks, Whole, Trees, Names, PoolOk, PoolOk2, PoolOk3, PutPool0, SetSrt, Join, CopyPool, Next, NodePut, JoinT, TreePut, KeySem, KeySem2, CutAge, Calm, Prune, Prune2. No condition. -/
import Derived.Test.YtjllpipmaejeoaaGreatDW1
import Derived.Laws.BitsLemmas
set_option linter.all false
namespace Go.Proofs.YtjllpipmaejeoaaGreat.Pl
open Go.Proofs.YtjllpipmaejeoaaGreat.R Go.Proofs.YtjllpipmaejeoaaGreat.XW
theorem yn5 {T R : Type} {step : (T → Option R) → T → Option R} (μ : T → Nat) (inv : T → Prop) (G : T → Option R)
  (h : ∀ again t, inv t → (∀ t', inv t' → μ t' < μ t → again t' = G t') → step again t = G t) : ∀ (n : Nat) (t : T), inv t → μ t < n → zR step n t = G t := by
 intro n
 induction n with
 | zero => intro t _ hn; omega
 | succ n ih =>
  intro t ht hn
  rw [zR]
  exact h _ t ht fun t' ht' hlt => ih t' ht' (by omega)
theorem Zy {T R : Type} {step : (T → Option R) → T → Option R} (μ : T → Nat) (inv : T → Prop) (G : T → Option R)
  (h : ∀ again t, inv t → (∀ t', inv t' → μ t' < μ t → again t' = G t') → step again t = G t) (t : T) (ht : inv t) (hn : μ t < 18446744073709551616) : zR step Yd t = G t :=
 yn5 μ inv G h Yd t ht (by rw [y1x]; exact hn)
theorem w64 {n : Int} (h0 : -9223372036854775808 ≤ n) (h1 : n ≤ 9223372036854775807) : Go.IntKind.wrap .i64 n = n := by
 rw [IntKind.wrap_i64]
 omega
def inR (x a b : Int) : Bool := decide (a ≤ x) && decide (x ≤ b)
theorem zt {x a b : Int} : inR x a b = true ↔ a ≤ x ∧ x ≤ b := by simp [inR]
theorem yeq (n : Nat) (h : n < 9223372036854775808) : IntKind.i64.wrap (n : Int) = n := by
 rw [IntKind.wrap_i64]
 omega
theorem yc3 (x : Int) : ((BitVec.ofInt 64 x).toNat : Int) = x % 18446744073709551616 := by
 rw [BitVec.toNat_ofInt]
 omega
theorem yiA (x : Int) (m : Nat) (j : Nat) (hj : j < 63) (hm : m = 2 ^ j - 1) : bits .and .i64 x m = x % (2 ^ j : Nat) := by
 have hd : (2 ^ j : Nat) ∣ 18446744073709551616 := by
  have : (18446744073709551616 : Nat) = 2 ^ j * 2 ^ (64 - j) := by rw [← Nat.pow_add, show j + (64 - j) = 64 by omega]
  rw [this]
  exact Nat.dvd_mul_right _ _
 have hlt : m < 18446744073709551616 := by
  have : 2 ^ j ≤ 2 ^ 64 := Nat.pow_le_pow_right (by omega) (by omega)
  have h1 : 0 < 2 ^ j := Nat.two_pow_pos j
  omega
 have hj63 : 2 ^ j < 9223372036854775808 := by
  have : 2 ^ j ≤ 2 ^ 62 := Nat.pow_le_pow_right (by omega) (by omega)
  omega
 show IntKind.i64.wrap ((BitVec.ofInt 64 x &&& BitVec.ofInt 64 (m : Int)).toNat : Int) = _
 rw [BitVec.toNat_and, BitVec.ofInt_natCast, BitVec.toNat_ofNat, Nat.mod_eq_of_lt hlt, hm, Nat.and_two_pow_sub_one_eq_mod]
 have h2 := Nat.mod_lt (BitVec.ofInt 64 x).toNat (Nat.two_pow_pos j)
 rw [yeq _ (by omega), Int.natCast_emod, yc3]
 exact Int.emod_emod_of_dvd _ (Int.ofNat_dvd.2 hd)
theorem ytM (x : Int) : bits .and .i64 x 255 = x % 256 := yiA x 255 8 (by omega) (by decide)
def isBytes (l : List Int) : Prop := ∀ x ∈ l, 0 ≤ x ∧ x < 256
def by_ (l : List Int) (i : Int) : Int := l.getD i.toNat 0
end Go.Proofs.YtjllpipmaejeoaaGreat.Pl
namespace Go.Proofs.YtjllpipmaejeoaaGreat.Pl
open Go.Proofs.YtjllpipmaejeoaaGreat.R Go.Proofs.YtjllpipmaejeoaaGreat.XW
theorem jc {T R : Type} {step : (T → Option R) → T → Option R} (μ : T → Nat) (inv : T → Prop) (Q : T → Option R → Prop)
  (h : ∀ again t, inv t → (∀ t', inv t' → μ t' < μ t → Q t' (again t')) → Q t (step again t)) (t : T) (ht : inv t) (hn : μ t < 18446744073709551616) : Q t (zR step Yd t) := by
 have key : ∀ (n : Nat) (t : T), inv t → μ t < n → Q t (zR step n t) := by
  intro n
  induction n with
  | zero => intro t _ hn; omega
  | succ n ih =>
   intro t ht hn
   rw [zR]
   exact h _ t ht fun t' ht' hlt => ih t' ht' (by omega)
 exact key Yd t ht (by rw [y1x]; exact hn)
theorem y8z {A : Type} (da : A) (l : List A) (i : Int) (h0 : 0 ≤ i) (h : i < l.length) : l.getD i.toNat da = l[i.toNat]'(by omega) := by
 rw [List.getD_eq_getElem?_getD, List.getElem?_eq_getElem (by omega)]
 rfl
theorem yX {A : Type} (da : A) (l : List A) (i : Int) (h0 : 0 ≤ i) (h : i < l.length) : l.getD i.toNat da ∈ l := by
 rw [y8z da l i h0 h]
 exact List.getElem_mem _
theorem JG {A : Type} (da : A) (l : List A) (i : Int) (h0 : 0 ≤ i) (h : i < l.length) : l.drop i.toNat = l.getD i.toNat da :: l.drop (i + 1).toNat := by
 rw [y8z da l i h0 h, show (i + 1).toNat = i.toNat + 1 by omega, ← List.drop_eq_getElem_cons]
def kr {A : Type} (w : A → Int) (l : List A) : Int := l.foldr (fun a s => w a + s) 0
theorem Yj {A : Type} (w : A → Int) (a : A) (l : List A) : kr w (a :: l) = w a + kr w l := rfl
theorem y0L {A : Type} {w : A → Int} (hw : ∀ a, 0 ≤ w a) : ∀ {l : List A} {a : A}, a ∈ l → w a ≤ kr w l ∧ 0 ≤ kr w l
 | b :: l, a, h => by
  have hs : 0 ≤ kr w l := by
   clear h
   induction l with
   | nil => exact Int.le_refl _
   | cons c l ih => rw [Yj]; have := hw c; omega
  rw [Yj]
  have := hw b
  rcases List.mem_cons.1 h with rfl | h
  ·omega
  ·have := (y0L hw h).1
   omega
theorem W3 {A : Type} {w : A → Int} (hw : ∀ a, 0 ≤ w a) (l : List A) : 0 ≤ kr w l := by
 induction l with
 | nil => exact Int.le_refl _
 | cons c l ih => rw [Yj]; have := hw c; omega
end Go.Proofs.YtjllpipmaejeoaaGreat.Pl
namespace Go.Proofs.YtjllpipmaejeoaaGreat.Pl
open Go.Proofs.YtjllpipmaejeoaaGreat.R Go.Proofs.YtjllpipmaejeoaaGreat.XW
theorem zY {T A S R : Type} {step : (T → Option R) → T → Option R} (mk : Int → S → T) (k : S → Option R) (da : A) (g : S → A → S) (l : List A) (hl : l.length ≤ 1099511627776) (I : Nat → S → Prop)
  (h : ∀ again i s, 0 ≤ i → i < (l.length : Int) → I i.toNat s → step again (mk i s) = again (mk (i + 1) (g s (l.getD i.toNat da))) ∧ I (i.toNat + 1) (g s (l.getD i.toNat da)))
  (hd : ∀ again i s, ¬ i < (l.length : Int) → step again (mk i s) = k s) (s : S) (hs : I 0 s) : zR step Yd (mk 0 s) = k (l.foldl g s) := by
 have key : ∀ (n : Nat) (i : Int) (s : S), 0 ≤ i → i ≤ l.length → I i.toNat s → l.length - i.toNat < n → zR step n (mk i s) = k ((l.drop i.toNat).foldl g s) := by
  intro n
  induction n with
  | zero => intro i s _ _ _ hn; omega
  | succ n ih =>
   intro i s h0 h1 hI hn
   rw [zR]
   by_cases hi : i < (l.length : Int)
   ·obtain ⟨e, hI'⟩ := h (zR step n) i s h0 hi hI
    have e1 : (i + 1).toNat = i.toNat + 1 := by omega
    rw [e, ih (i + 1) _ (by omega) (by omega) (by rw [e1]; exact hI') (by omega), JG da l i h0 hi]
    rfl
   ·rw [hd _ i s hi, List.drop_of_length_le (by omega)]
    rfl
 have := key Yd 0 s (by omega) (by omega) hs (by rw [y1x]; simp; omega)
 simpa using this
def W4 (c k : y7) : Bool := if c.1 < k.1 then true else if c.1 = k.1 then decide (c.2.1 < k.2.1) else false
def Y1 (c k : y7) : Bool := decide (c.1 = k.1) && decide (c.2.1 = k.2.1)
theorem y0f (a1 a2 a3 a4 a5 b1 b2 b3 b4 b5 : Int) : jU (a1, a2, a3, a4, a5, b1, b2, b3, b4, b5) = some (W4 (a1, a2, a3, a4, a5) (b1, b2, b3, b4, b5)) := by
 unfold jU W4
 by_cases h : a1 = b1
 ·subst h
  simp
 ·have hb : (a1 == b1) = false := by simpa using h
  have hb' : (a1 != b1) = true := by simpa using h
  by_cases h2 : a1 < b1 <;> simp [h, h2, hb, hb']
theorem y0g (a1 a2 a3 a4 a5 b1 b2 b3 b4 b5 : Int) : jX (a1, a2, a3, a4, a5, b1, b2, b3, b4, b5) = some (W4 (a1, a2, a3, a4, a5) (b1, b2, b3, b4, b5)) := by
 unfold jX W4
 by_cases h : a1 = b1
 ·subst h
  simp
 ·have hb : (a1 == b1) = false := by simpa using h
  have hb' : (a1 != b1) = true := by simpa using h
  by_cases h2 : a1 < b1 <;> simp [h, h2, hb, hb']
theorem y3I (a1 a2 a3 a4 a5 b1 b2 b3 b4 b5 : Int) : ZP (a1, a2, a3, a4, a5, b1, b2, b3, b4, b5) = some (Y1 (a1, a2, a3, a4, a5) (b1, b2, b3, b4, b5)) := by
 unfold ZP Y1
 have e1 : (a1 == b1) = decide (a1 = b1) := rfl
 have e2 : (a2 == b2) = decide (a2 = b2) := rfl
 simp only [e1, e2]
 cases decide (a1 = b1) <;> cases decide (a2 = b2) <;> rfl
theorem y3J (a1 a2 a3 a4 a5 b1 b2 b3 b4 b5 : Int) : ZW (a1, a2, a3, a4, a5, b1, b2, b3, b4, b5) = some (Y1 (a1, a2, a3, a4, a5) (b1, b2, b3, b4, b5)) := by
 unfold ZW Y1
 have e1 : (a1 == b1) = decide (a1 = b1) := rfl
 have e2 : (a2 == b2) = decide (a2 = b2) := rfl
 simp only [e1, e2]
 cases decide (a1 = b1) <;> cases decide (a2 = b2) <;> rfl
theorem yuz {n k : Nat} (h : n ≤ 1073741825) (hk : (1073741825 + k) * 40 < 140737488355328) : (n + k) * 40 < 140737488355328 := by omega
def J1 (k : y7) (s : Bool × List y7) (c : y7) : Bool × List y7 :=
 if s.1 = false ∧ W4 c k = false then (true, if Y1 c k then s.2 ++ [k] else s.2 ++ [k] ++ [c]) else (s.1, if Y1 c k then s.2 else s.2 ++ [c])
def Y0 (l : List y7) (k : y7) : List y7 :=
 let r := l.foldl (J1 k) (false, [])
 if r.1 then r.2 else r.2 ++ [k]
def pN (p : Bool) : Nat := if p then 1 else 0
theorem y4R (k : y7) (s : Bool × List y7) (c : y7) : (J1 k s c).2.length + pN s.1 ≤ s.2.length + 1 + pN (J1 k s c).1 ∧ pN (J1 k s c).1 ≤ 1 := by
 unfold J1 pN
 obtain ⟨p, o⟩ := s
 cases p <;> cases W4 c k <;> cases Y1 c k <;> simp
theorem y0M (k : y7) : ∀ (l : List y7) (s : Bool × List y7), (l.foldl (J1 k) s).2.length + pN s.1 ≤ s.2.length + l.length + pN (l.foldl (J1 k) s).1
 | [], s => by simp
 | c :: l, s => by
  have h1 := (y4R k s c).1
  have h2 := y0M k l (J1 k s c)
  simp only [List.foldl_cons, List.length_cons] at h2 ⊢
  omega
theorem Wk (l : List y7) (k : y7) : (Y0 l k).length ≤ l.length + 1 := by
 have h := y0M k l (false, [])
 unfold Y0
 simp only [pN, List.length_nil, Bool.false_eq_true, if_false] at h ⊢
 cases hr : (l.foldl (J1 k) (false, [])).1 with
 | true =>
  rw [hr] at h
  simp at h ⊢
  omega
 | false =>
  rw [hr] at h
  simp at h ⊢
  omega
theorem y3K {R : Type} (k0 : Bool × Int × Int × Int × Int × Int × List y7 → Option R) (again : Wy → Option R) (l : List y7) (i : Int) (p : Bool) (a b c d e : Int) (o : List y7) (hl : l.length ≤ 1073741824) (h0 : 0 ≤ i) (h1 : i < (l.length : Int)) (ho : o.length ≤ 1073741825) :
  Z0 k0 again (l, p, i, a, b, c, d, e, o) = again (l, (J1 (a, b, c, d, e) (p, o) (l.getD i.toNat yF)).1, i + 1, a, b, c, d, e, (J1 (a, b, c, d, e) (p, o) (l.getD i.toNat yF)).2) := by
 have hw : Go.IntKind.wrap .i64 (i + 1) = i + 1 := w64 (by omega) (by omega)
 have c1 : (o.length + (0 + 1)) * 40 < 140737488355328 := yuz ho (by decide)
 have c2 : (o.length + (0 + 1) + (0 + 1)) * 40 < 140737488355328 := by rw [Nat.add_assoc]; exact yuz ho (by decide)
 obtain ⟨⟨x1, x2, x3, x4, x5⟩, hx⟩ : ∃ x, y6 l i = x := ⟨_, rfl⟩
 have hx' : l.getD i.toNat yF = (x1, x2, x3, x4, x5) := hx
 rw [hx']
 unfold Z0
 simp only [Bool.cond_eq_ite, decide_eq_true_eq, h0, h1, if_true, hw, hx, y0f, y3I, Option.bind_some, List.length_append, List.length_cons, List.length_nil]
 unfold J1
 generalize W4 (x1, x2, x3, x4, x5) (a, b, c, d, e) = q1
 generalize Y1 (x1, x2, x3, x4, x5) (a, b, c, d, e) = q2
 simp only [c1, c2, if_true]
 cases p <;> cases q1 <;> cases q2 <;> rfl
theorem y3L {R : Type} (k0 : Bool × Int × Int × Int × Int × Int × List y7 → Option R) (l : List y7) (a b c d e : Int) (hl : l.length ≤ 1073741824) :
  vC k0 (l, false, 0, a, b, c, d, e, []) = k0 ((l.foldl (J1 (a, b, c, d, e)) (false, [])).1, a, b, c, d, e, (l.foldl (J1 (a, b, c, d, e)) (false, [])).2) := by
 unfold vC
 refine zY (step := Z0 k0) (fun (i : Int) (s : Bool × List y7) => (l, s.1, i, a, b, c, d, e, s.2)) (fun s => k0 (s.1, a, b, c, d, e, s.2)) yF (J1 (a, b, c, d, e)) l (by omega) (fun i s => s.2.length ≤ i + pN s.1) ?_ ?_ (false, []) (by simp)
 ·rintro again i ⟨p, o⟩ h0 h1 hI
  have hp : pN p ≤ 1 := by cases p <;> decide
  have hI' : o.length ≤ i.toNat + pN p := hI
  clear hI
  refine ⟨y3K k0 again l i p a b c d e o hl h0 h1 (by omega), ?_⟩
  have ho := (y4R (a, b, c, d, e) (p, o) (l.getD i.toNat yF)).1
  show (J1 (a, b, c, d, e) (p, o) (l.getD i.toNat yF)).2.length ≤ i.toNat + 1 + pN (J1 (a, b, c, d, e) (p, o) (l.getD i.toNat yF)).1
  generalize (J1 (a, b, c, d, e) (p, o) (l.getD i.toNat yF)) = r at ho ⊢
  simp only at ho
  omega
 ·rintro again i ⟨p, o⟩ hi
  show Z0 k0 again (l, p, i, a, b, c, d, e, o) = _
  unfold Z0
  simp only [Bool.cond_eq_ite, decide_eq_true_eq, if_neg hi]
theorem Kn (l : List y7) (a b c d e : Int) (hl : l.length ≤ 1073741824) : zJ (l, a, b, c, d, e) = some (Y0 l (a, b, c, d, e)) := by
 have hlen := y0M (a, b, c, d, e) l (false, [])
 unfold zJ Y0
 rw [y3L _ l a b c d e hl]
 generalize l.foldl (J1 (a, b, c, d, e)) (false, []) = r at hlen ⊢
 obtain ⟨q, o⟩ := r
 cases q with
 | true => rfl
 | false =>
  simp only [pN, List.length_nil, Bool.false_eq_true, if_false] at hlen
  simp only [Bool.not_false, cond_true, List.length_cons, List.length_nil, Bool.false_eq_true, if_false]
  rw [if_pos (by omega)]
theorem y3M {R : Type} (k0 : Bool × Int × Int × Int × Int × Int × List y7 → Option R) (again : WV → Option R) (l : List y7) (i : Int) (p : Bool) (a b c d e : Int) (o : List y7) (hl : l.length ≤ 1073741824) (h0 : 0 ≤ i) (h1 : i < (l.length : Int)) (ho : o.length ≤ 1073741825) :
  Z4 k0 again (p, l, (l.length : Int), i, a, b, c, d, e, o) = again ((J1 (a, b, c, d, e) (p, o) (l.getD i.toNat yF)).1, l, (l.length : Int), i + 1, a, b, c, d, e, (J1 (a, b, c, d, e) (p, o) (l.getD i.toNat yF)).2) := by
 have hw : Go.IntKind.wrap .i64 (i + 1) = i + 1 := w64 (by omega) (by omega)
 have c1 : (o.length + (0 + 1)) * 40 < 140737488355328 := yuz ho (by decide)
 have c2 : (o.length + (0 + 1) + (0 + 1)) * 40 < 140737488355328 := by rw [Nat.add_assoc]; exact yuz ho (by decide)
 obtain ⟨⟨x1, x2, x3, x4, x5⟩, hx⟩ : ∃ x, y6 l i = x := ⟨_, rfl⟩
 have hx' : l.getD i.toNat yF = (x1, x2, x3, x4, x5) := hx
 rw [hx']
 unfold Z4
 simp only [Bool.cond_eq_ite, decide_eq_true_eq, h0, h1, if_true, hw, hx, y0g, y3J, Option.bind_some, List.length_append, List.length_cons, List.length_nil]
 unfold J1
 generalize W4 (x1, x2, x3, x4, x5) (a, b, c, d, e) = q1
 generalize Y1 (x1, x2, x3, x4, x5) (a, b, c, d, e) = q2
 simp only [c1, c2, if_true]
 cases p <;> cases q1 <;> cases q2 <;> rfl
theorem y3N {R : Type} (k0 : Bool × Int × Int × Int × Int × Int × List y7 → Option R) (l : List y7) (a b c d e : Int) (hl : l.length ≤ 1073741824) :
  vY k0 (false, l, (l.length : Int), 0, a, b, c, d, e, []) = k0 ((l.foldl (J1 (a, b, c, d, e)) (false, [])).1, a, b, c, d, e, (l.foldl (J1 (a, b, c, d, e)) (false, [])).2) := by
 unfold vY
 refine zY (step := Z4 k0) (fun (i : Int) (s : Bool × List y7) => (s.1, l, (l.length : Int), i, a, b, c, d, e, s.2)) (fun s => k0 (s.1, a, b, c, d, e, s.2)) yF (J1 (a, b, c, d, e)) l (by omega) (fun i s => s.2.length ≤ i + pN s.1) ?_ ?_ (false, []) (by simp)
 ·rintro again i ⟨p, o⟩ h0 h1 hI
  have hp : pN p ≤ 1 := by cases p <;> decide
  have hI' : o.length ≤ i.toNat + pN p := hI
  clear hI
  refine ⟨y3M k0 again l i p a b c d e o hl h0 h1 (by omega), ?_⟩
  have ho := (y4R (a, b, c, d, e) (p, o) (l.getD i.toNat yF)).1
  show (J1 (a, b, c, d, e) (p, o) (l.getD i.toNat yF)).2.length ≤ i.toNat + 1 + pN (J1 (a, b, c, d, e) (p, o) (l.getD i.toNat yF)).1
  generalize (J1 (a, b, c, d, e) (p, o) (l.getD i.toNat yF)) = r at ho ⊢
  simp only at ho
  omega
 ·rintro again i ⟨p, o⟩ hi
  show Z4 k0 again (p, l, (l.length : Int), i, a, b, c, d, e, o) = _
  unfold Z4
  simp only [Bool.cond_eq_ite, decide_eq_true_eq, if_neg hi]
theorem VQ (l : List y7) (a b c d e : Int) (hl : l.length ≤ 1073741824) : jt (l, a, b, c, d, e) = some (Y0 l (a, b, c, d, e)) := by
 have hlen := y0M (a, b, c, d, e) l (false, [])
 unfold jt Y0
 rw [y3N _ l a b c d e hl]
 generalize l.foldl (J1 (a, b, c, d, e)) (false, []) = r at hlen ⊢
 obtain ⟨q, o⟩ := r
 cases q with
 | true => rfl
 | false =>
  simp only [pN, List.length_nil, Bool.false_eq_true, if_false] at hlen
  simp only [Bool.not_false, cond_true, List.length_cons, List.length_nil, Bool.false_eq_true, if_false]
  rw [if_pos (by omega)]
end Go.Proofs.YtjllpipmaejeoaaGreat.Pl
namespace Go.Proofs.YtjllpipmaejeoaaGreat.Pl
open Go.Proofs.YtjllpipmaejeoaaGreat.R Go.Proofs.YtjllpipmaejeoaaGreat.XW
def Qu (l : List ya) : Int := (List.length l : Int) + kr (fun a : ya => (List.length a : Int)) l
theorem KC (l : List ya) : 0 ≤ Qu l := by
 have := W3 (w := fun a : ya => (List.length a : Int)) (fun a => Int.natCast_nonneg _) l
 unfold Qu
 omega
end Go.Proofs.YtjllpipmaejeoaaGreat.Pl
namespace Go.Proofs.YtjllpipmaejeoaaGreat.Pl
open Go.Proofs.YtjllpipmaejeoaaGreat.R Go.Proofs.YtjllpipmaejeoaaGreat.XW
def Z8 (a b : List y7) : List y7 := b.foldl Y0 a
theorem y0N : ∀ (b a : List y7), (Z8 a b).length ≤ a.length + b.length
 | [], a => by simp [Z8]
 | c :: b, a => by
  have h := y0N b (Y0 a c)
  have h2 := Wk a c
  unfold Z8 at h ⊢
  simp only [List.foldl_cons, List.length_cons] at h ⊢
  omega
def Vf (s : List y7) (c : y7) : List y7 := if c.2.2.1 = 0 then s else s ++ [c]
def W5 (l : List y7) : List y7 := l.foldl Vf []
theorem y1C (s : List y7) (c : y7) : (Vf s c).length ≤ s.length + 1 := by
 unfold Vf
 split <;> simp
theorem y4S : ∀ (l s : List y7), (l.foldl Vf s).length ≤ s.length + l.length
 | [], s => by simp
 | c :: l, s => by
  have h := y4S l (Vf s c)
  have h2 := y1C s c
  simp only [List.foldl_cons, List.length_cons]
  omega
def qc (a : ya) : Int := (List.length a : Int)
theorem K6 (a : ya) : 0 ≤ qc a := Int.natCast_nonneg _
def yz (n : List ya) : List y7 := W5 (n.foldl Z8 [])
theorem y2d : ∀ (n : List ya) (s : List y7), ((n.foldl Z8 s).length : Int) ≤ s.length + kr qc n
 | [], s => by simp [kr]
 | c :: n, s => by
  have h := y2d n (Z8 s c)
  have h2 := y0N c s
  simp only [List.foldl_cons, Yj, qc]
  omega
theorem KD (n : List ya) : ((yz n).length : Int) ≤ kr qc n := by
 have h := y4S (n.foldl Z8 []) []
 have h2 := y2d n []
 unfold yz W5
 simp only [List.length_nil] at h h2
 omega
theorem y2e (n : List ya) : kr qc n ≤ Qu n := by
 show kr (fun a : ya => (List.length a : Int)) n ≤ (List.length n : Int) + kr (fun a : ya => (List.length a : Int)) n
 omega
def kt (s : List y7) (n : y0) : List y7 := s ++ yz n
def yb (t : List y0) : List y7 := t.foldl kt []
theorem y2Q (a b : List y7) (h : a.length + b.length ≤ 1073741824) : Za (a, b) = some (Z8 a b) := by
 unfold Za Vw
 simp only [List.length_nil, Nat.zero_add, List.nil_append]
 rw [if_pos (by omega)]
 refine zY (step := Zh _) (fun (i : Int) (s : List y7) => (b, i, s)) (fun s => some s) yF Y0 b (by omega) (fun i s => s.length ≤ a.length + i) ?_ ?_ a (by simp)
 ·intro again i s h0 h1 hI
  have hw : Go.IntKind.wrap .i64 (i + 1) = i + 1 := w64 (by omega) (by omega)
  have hs := Wk s (b.getD i.toNat yF)
  have e := Kn s (y6 b i).1 (y6 b i).2.1 (y6 b i).2.2.1 (y6 b i).2.2.2.1 (y6 b i).2.2.2.2 (by omega)
  refine ⟨?_, by omega⟩
  unfold Zh
  simp only [Bool.cond_eq_ite, decide_eq_true_eq, h0, h1, if_true, hw, e, Option.bind_some]
  rfl
 ·intro again i s hi
  unfold Zh
  simp only [Bool.cond_eq_ite, decide_eq_true_eq, if_neg hi]
theorem y0h (l : List y7) (h : l.length ≤ 1073741824) : Y4 l = some (W5 l) := by
 unfold Y4 y27
 refine zY (step := Wx _) (fun (i : Int) (s : List y7) => (l, i, s)) (fun s => some s) yF Vf l (by omega) (fun i s => s.length ≤ i) ?_ ?_ [] (by simp)
 ·intro again i s h0 h1 hI
  have hw : Go.IntKind.wrap .i64 (i + 1) = i + 1 := w64 (by omega) (by omega)
  have hs := y1C s (l.getD i.toNat yF)
  refine ⟨?_, by omega⟩
  have c1 : (s.length + 1) * 40 < 140737488355328 := by omega
  clear hs
  unfold Wx Vf
  obtain ⟨⟨x1, x2, x3, x4, x5⟩, hx⟩ : ∃ x, y6 l i = x := ⟨_, rfl⟩
  have hx' : l.getD i.toNat yF = (x1, x2, x3, x4, x5) := hx
  rw [hx']
  simp only [Bool.cond_eq_ite, decide_eq_true_eq, h0, h1, if_true, hw, hx, List.length_cons, List.length_nil, Nat.zero_add, c1]
  by_cases h3 : x3 = 0
  ·rw [if_neg (by simpa using h3), if_pos h3]
  ·rw [if_pos (by simpa using h3), if_neg h3]
 ·intro again i s hi
  unfold Wx
  simp only [Bool.cond_eq_ite, decide_eq_true_eq, if_neg hi]
theorem Ze (n : List ya) (hn : n.length ≤ 1073741824) (h : kr qc n ≤ 1048576) : yC n = some (yz n) := by
 have hlen := y2d n []
 simp only [List.length_nil] at hlen
 have hD := y0h (n.foldl Z8 []) (by omega)
 unfold yC qk
 refine (zY (step := ZQ _) (fun (i : Int) (s : List y7) => (i, n, s)) (fun s => Option.bind (Y4 s) fun r3 => some r3) z7 Z8 n (by omega) (fun i s => (s.length : Int) + kr qc (n.drop i) ≤ kr qc n) ?_ ?_ [] (by simp)).trans ?_
 ·intro again i s h0 h1 hI
  have hw : Go.IntKind.wrap .i64 (i + 1) = i + 1 := w64 (by omega) (by omega)
  rw [JG z7 n i h0 h1, Yj, show (i + 1).toNat = i.toNat + 1 by omega] at hI
  have hnn := W3 K6 (n.drop (i.toNat + 1))
  have hm := y0N (n.getD i.toNat z7) s
  have hk : qc (n.getD i.toNat z7) = (List.length (n.getD i.toNat z7) : Int) := rfl
  have e : Za (s, yp n i) = some (Z8 s (yp n i)) := y2Q s _ (by show s.length + List.length (n.getD i.toNat z7) ≤ _; omega)
  refine ⟨?_, by omega⟩
  unfold ZQ
  simp only [Bool.cond_eq_ite, decide_eq_true_eq, h0, h1, if_true, hw, e, Option.bind_some]
  rfl
 ·intro again i s hi
  unfold ZQ
  simp only [Bool.cond_eq_ite, decide_eq_true_eq, if_neg hi]
 ·rw [hD]
  rfl
theorem YJ (q : List Int) (t : List y0) (ht : t.length ≤ 1073741824) (hm : ∀ n ∈ t, List.length n ≤ 1073741824) (h : kr Qu t ≤ 1048576) : yP (q, t) = some (yb t) := by
 unfold yP qm
 refine zY (step := ZR _) (fun (i : Int) (s : List y7) => (i, q, t, s)) (fun s => some s) yg kt t (by omega) (fun i s => (s.length : Int) + kr Qu (t.drop i) ≤ kr Qu t) ?_ ?_ [] (by simp)
 ·intro again i s h0 h1 hI
  have hw : Go.IntKind.wrap .i64 (i + 1) = i + 1 := w64 (by omega) (by omega)
  rw [JG yg t i h0 h1, Yj, show (i + 1).toNat = i.toNat + 1 by omega] at hI
  have hnn := W3 KC (t.drop (i.toNat + 1))
  have hge := y2e (t.getD i.toNat yg)
  have hk := KD (t.getD i.toNat yg)
  have e : yC (yf t i) = some (yz (yf t i)) := Ze _ (hm _ (yX yg t i h0 h1)) (by show kr qc (t.getD i.toNat yg) ≤ _; omega)
  have hT : (kt s (t.getD i.toNat yg)).length = s.length + (yz (t.getD i.toNat yg)).length := List.length_append
  have c1 : (s.length + (yz (yf t i)).length) * 40 < 140737488355328 := by
   show (s.length + (yz (t.getD i.toNat yg)).length) * 40 < 140737488355328
   generalize (yz (t.getD i.toNat yg)).length = m at hk ⊢
   clear hT e
   have : s.length + m ≤ 1048576 := by omega
   omega
  refine ⟨?_, by rw [hT]; omega⟩
  unfold ZR
  simp only [Bool.cond_eq_ite, decide_eq_true_eq, h0, h1, if_true, hw, e, Option.bind_some, c1]
  rfl
 ·intro again i s hi
  unfold ZR
  simp only [Bool.cond_eq_ite, decide_eq_true_eq, if_neg hi]
theorem y2R (a b : List y7) (h : a.length + b.length ≤ 1073741824) : Zd (a, b) = some (Z8 a b) := by
 unfold Zd Y7 VB
 simp only [List.length_nil, Nat.zero_add, List.nil_append]
 rw [if_pos (by omega), Option.bind_some]
 refine zY (step := Zp _) (fun (i : Int) (s : List y7) => (b, (b.length : Int), i, s)) (fun s => some s) yF Y0 b (by omega) (fun i s => s.length ≤ a.length + i) ?_ ?_ a (by simp)
 ·intro again i s h0 h1 hI
  have hw : Go.IntKind.wrap .i64 (i + 1) = i + 1 := w64 (by omega) (by omega)
  have hs := Wk s (b.getD i.toNat yF)
  have e := VQ s (y6 b i).1 (y6 b i).2.1 (y6 b i).2.2.1 (y6 b i).2.2.2.1 (y6 b i).2.2.2.2 (by omega)
  refine ⟨?_, by omega⟩
  unfold Zp
  simp only [Bool.cond_eq_ite, decide_eq_true_eq, h0, h1, if_true, hw, e, Option.bind_some]
  rfl
 ·intro again i s hi
  unfold Zp
  simp only [Bool.cond_eq_ite, decide_eq_true_eq, if_neg hi]
theorem y3o (l : List y7) (h : l.length ≤ 1073741824) : Js l = some (W5 l) := by
 unfold Js y2c
 refine zY (step := WX _) (fun (i : Int) (s : List y7) => (l, (l.length : Int), i, s)) (fun s => some s) yF Vf l (by omega) (fun i s => s.length ≤ i) ?_ ?_ [] (by simp)
 ·intro again i s h0 h1 hI
  have hw : Go.IntKind.wrap .i64 (i + 1) = i + 1 := w64 (by omega) (by omega)
  have hs := y1C s (l.getD i.toNat yF)
  refine ⟨?_, by omega⟩
  have c1 : (s.length + 1) * 40 < 140737488355328 := by omega
  clear hs
  unfold WX Vf
  obtain ⟨⟨x1, x2, x3, x4, x5⟩, hx⟩ : ∃ x, y6 l i = x := ⟨_, rfl⟩
  have hx' : l.getD i.toNat yF = (x1, x2, x3, x4, x5) := hx
  rw [hx']
  simp only [Bool.cond_eq_ite, decide_eq_true_eq, h0, h1, if_true, hw, hx, List.length_cons, List.length_nil, Nat.zero_add, c1]
  by_cases h3 : x3 = 0
  ·rw [if_neg (by simpa using h3), if_pos h3]
  ·rw [if_pos (by simpa using h3), if_neg h3]
 ·intro again i s hi
  unfold WX
  simp only [Bool.cond_eq_ite, decide_eq_true_eq, if_neg hi]
theorem jP (n : List ya) (hn : n.length ≤ 1073741824) (h : kr qc n ≤ 1048576) : yS n = some (yz n) := by
 have hlen := y2d n []
 simp only [List.length_nil] at hlen
 have hD := y3o (n.foldl Z8 []) (by omega)
 unfold yS qp
 refine (zY (step := ZX _) (fun (i : Int) (s : List y7) => (n, (n.length : Int), i, s)) (fun s => Option.bind (Js s) fun r3 => some r3) z7 Z8 n (by omega) (fun i s => (s.length : Int) + kr qc (n.drop i) ≤ kr qc n) ?_ ?_ [] (by simp)).trans ?_
 ·intro again i s h0 h1 hI
  have hw : Go.IntKind.wrap .i64 (i + 1) = i + 1 := w64 (by omega) (by omega)
  rw [JG z7 n i h0 h1, Yj, show (i + 1).toNat = i.toNat + 1 by omega] at hI
  have hnn := W3 K6 (n.drop (i.toNat + 1))
  have hm := y0N (n.getD i.toNat z7) s
  have hk : qc (n.getD i.toNat z7) = (List.length (n.getD i.toNat z7) : Int) := rfl
  have e : Zd (s, yp n i) = some (Z8 s (yp n i)) := y2R s _ (by show s.length + List.length (n.getD i.toNat z7) ≤ _; omega)
  refine ⟨?_, by omega⟩
  unfold ZX
  simp only [Bool.cond_eq_ite, decide_eq_true_eq, h0, h1, if_true, hw, e, Option.bind_some]
  rfl
 ·intro again i s hi
  unfold ZX
  simp only [Bool.cond_eq_ite, decide_eq_true_eq, if_neg hi]
 ·rw [hD]
  rfl
theorem Zf (q : List Int) (t : List y0) (ht : t.length ≤ 1073741824) (hm : ∀ n ∈ t, List.length n ≤ 1073741824) (h : kr Qu t ≤ 1048576) : yT (q, t) = some (yb t) := by
 unfold yT qq
 refine zY (step := ZY _) (fun (i : Int) (s : List y7) => (t, (t.length : Int), i, s)) (fun s => some s) yg kt t (by omega) (fun i s => (s.length : Int) + kr Qu (t.drop i) ≤ kr Qu t) ?_ ?_ [] (by simp)
 ·intro again i s h0 h1 hI
  have hw : Go.IntKind.wrap .i64 (i + 1) = i + 1 := w64 (by omega) (by omega)
  rw [JG yg t i h0 h1, Yj, show (i + 1).toNat = i.toNat + 1 by omega] at hI
  have hnn := W3 KC (t.drop (i.toNat + 1))
  have hge := y2e (t.getD i.toNat yg)
  have hk := KD (t.getD i.toNat yg)
  have e : yS (yf t i) = some (yz (yf t i)) := jP _ (hm _ (yX yg t i h0 h1)) (by show kr qc (t.getD i.toNat yg) ≤ _; omega)
  have hT : (kt s (t.getD i.toNat yg)).length = s.length + (yz (t.getD i.toNat yg)).length := List.length_append
  have c1 : (s.length + (yz (yf t i)).length) * 40 < 140737488355328 := by
   show (s.length + (yz (t.getD i.toNat yg)).length) * 40 < 140737488355328
   generalize (yz (t.getD i.toNat yg)).length = m at hk ⊢
   clear hT e
   have : s.length + m ≤ 1048576 := by omega
   omega
  refine ⟨?_, by rw [hT]; omega⟩
  unfold ZY
  simp only [Bool.cond_eq_ite, decide_eq_true_eq, h0, h1, if_true, hw, e, Option.bind_some, c1]
  rfl
 ·intro again i s hi
  unfold ZY
  simp only [Bool.cond_eq_ite, decide_eq_true_eq, if_neg hi]
end Go.Proofs.YtjllpipmaejeoaaGreat.Pl
namespace Go.Proofs.YtjllpipmaejeoaaGreat.Pl
open Go.Proofs.YtjllpipmaejeoaaGreat.R Go.Proofs.YtjllpipmaejeoaaGreat.XW
def y91 {S A R : Type} (g : Int → S → A → Except (Option R) S) (k : S → Option R) : List A → Int → S → Option R
 | [], _, s => k s
 | a :: l, i, s => match g i s a with
  | .error r => r
  | .ok s' => y91 g k l (i + 1) s'
theorem y4T {T A S R : Type} {step : (T → Option R) → T → Option R} (mk : Int → S → T) (g : Int → S → A → Except (Option R) S) (k : S → Option R) (da : A) (l : List A) (hl : l.length ≤ 1099511627776) (I : Nat → S → Prop)
  (h : ∀ again i s, 0 ≤ i → i < (l.length : Int) → I i.toNat s → (step again (mk i s) = match g i s (l.getD i.toNat da) with
   | .error r => r
   | .ok s' => again (mk (i + 1) s')) ∧ ∀ s', g i s (l.getD i.toNat da) = .ok s' → I (i.toNat + 1) s')
  (hd : ∀ again i s, ¬ i < (l.length : Int) → step again (mk i s) = k s) (s : S) (hs : I 0 s) : zR step Yd (mk 0 s) = y91 g k l 0 s := by
 have key : ∀ (n : Nat) (i : Int) (s : S), 0 ≤ i → i ≤ l.length → I i.toNat s → l.length - i.toNat < n → zR step n (mk i s) = y91 g k (l.drop i.toNat) i s := by
  intro n
  induction n with
  | zero => intro i s _ _ _ hn; omega
  | succ n ih =>
   intro i s h0 h1 hI hn
   rw [zR]
   by_cases hi : i < (l.length : Int)
   ·obtain ⟨e, hI'⟩ := h (zR step n) i s h0 hi hI
    have e1 : (i + 1).toNat = i.toNat + 1 := by omega
    rw [e, JG da l i h0 hi, y91]
    cases hg : g i s (l.getD i.toNat da) with
    | error r => rfl
    | ok s' => exact ih (i + 1) s' (by omega) (by omega) (by rw [e1]; exact hI' s' hg) (by omega)
   ·rw [hd _ i s hi, List.drop_of_length_le (by omega)]
    rfl
 have := key Yd 0 s (by omega) (by omega) hs (by rw [y1x]; simp; omega)
 simpa using this
def zF {A : Type} (p : A → Bool) : List A → Int → Int
 | [], _ => -1
 | a :: l, i => if p a then i else zF p l (i + 1)
theorem y9O {A R : Type} (p : A → Bool) (hit : Int → Option R) (miss : Option R) : ∀ (l : List A) (i : Int), 0 ≤ i → y91 (fun i (_ : Unit) a => if p a then .error (hit i) else .ok ()) (fun _ => miss) l i () = if zF p l i < 0 then miss else hit (zF p l i)
 | [], i, _ => by simp [y91, zF]
 | a :: l, i, h => by
  rw [y91, zF]
  by_cases hp : p a = true
  ·rw [if_pos hp, if_pos hp, if_neg (by omega)]
  ·rw [if_neg hp, if_neg hp]
   exact y9O p hit miss l (i + 1) (by omega)
theorem YA {T A R : Type} {step : (T → Option R) → T → Option R} (mk : Int → T) (p : A → Bool) (hit : Int → Option R) (miss : Option R) (da : A) (l : List A) (hl : l.length ≤ 1099511627776)
  (h : ∀ again i, 0 ≤ i → i < (l.length : Int) → step again (mk i) = if p (l.getD i.toNat da) then hit i else again (mk (i + 1)))
  (hd : ∀ again i, ¬ i < (l.length : Int) → step again (mk i) = miss) : zR step Yd (mk 0) = if zF p l 0 < 0 then miss else hit (zF p l 0) := by
 rw [← y9O p hit miss l 0 (Int.le_refl _)]
 refine y4T (fun i (_ : Unit) => mk i) _ _ da l hl (fun _ _ => True) (fun again i s h0 h1 _ => ⟨?_, fun _ _ => trivial⟩) (fun again i s hi => hd again i hi) () trivial
 rw [h again i h0 h1]
 cases p (l.getD i.toNat da) <;> rfl
theorem Yc {A : Type} (p : A → Bool) (da : A) : ∀ (l : List A) (i : Int), 0 ≤ i → zF p l i = -1 ∨ (i ≤ zF p l i ∧ zF p l i < i + l.length ∧ p (l.getD (zF p l i - i).toNat da) = true)
 | [], i, _ => .inl rfl
 | a :: l, i, h => by
  rw [zF]
  by_cases hp : p a = true
  ·rw [if_pos hp]
   refine .inr ⟨Int.le_refl _, by simp only [List.length_cons]; omega, ?_⟩
   simpa using hp
  ·rw [if_neg hp]
   rcases Yc p da l (i + 1) (by omega) with e | ⟨e1, e2, e3⟩
   ·exact .inl e
   ·refine .inr ⟨by omega, by simp only [List.length_cons]; omega, ?_⟩
    rw [show (zF p l (i + 1) - i).toNat = (zF p l (i + 1) - (i + 1)).toNat + 1 by omega, List.getD_cons_succ]
    exact e3
def yR (l : List y9) (id : Int) : Int := zF (fun a : y9 => a.1 == id) l 0
theorem y0O (l : List y9) (id : Int) : yR l id = -1 ∨ (0 ≤ yR l id ∧ yR l id < l.length ∧ (l.getD (yR l id).toNat yy).1 = id) := by
 rcases Yc (fun a : y9 => a.1 == id) yy l 0 (Int.le_refl _) with h | ⟨h1, h2, h3⟩
 ·exact .inl h
 ·refine .inr ⟨h1, by simpa [yR] using h2, ?_⟩
  have := eq_of_beq h3
  simpa [yR] using this
theorem Zz (l : List y9) (id : Int) (hl : l.length ≤ 1073741824) : zQ (l, id) = some (yR l id) := by
 unfold zQ y19
 refine (YA (step := wu _ _) (fun i => (l, id, i)) (fun a : y9 => a.1 == id) (fun x => some x) (some (-1)) yy l (by omega) ?_ ?_).trans ?_
 ·intro again i h0 h1
  have hw : Go.IntKind.wrap .i64 (i + 1) = i + 1 := w64 (by omega) (by omega)
  unfold wu
  simp only [Bool.cond_eq_ite, decide_eq_true_eq, h0, h1, if_true, hw]
  rfl
 ·intro again i hi
  unfold wu
  simp only [Bool.cond_eq_ite, decide_eq_true_eq, if_neg hi]
 ·rcases y0O l id with h | ⟨h1, h2, h3⟩ <;> unfold yR at *
  ·rw [h]
   rfl
  ·rw [if_neg (by omega)]
theorem ku (l : List y9) (id : Int) (hl : l.length ≤ 1073741824) : YY (l, id) = some (yR l id) := by
 have key : zc (l, id) = some (yR l id, id) := by
  unfold zc YN
  refine (YA (step := z4 _ _) (fun i => (l, (l.length : Int), i, id)) (fun a : y9 => a.1 == id) (fun x => some (x, id)) (some (-1, id)) yy l (by omega) ?_ ?_).trans ?_
  ·intro again i h0 h1
   have hw : Go.IntKind.wrap .i64 (i + 1) = i + 1 := w64 (by omega) (by omega)
   unfold z4 Kl
   simp only [Bool.cond_eq_ite, decide_eq_true_eq, h0, h1, if_true, hw, Option.bind_some]
   rfl
  ·intro again i hi
   unfold z4
   simp only [Bool.cond_eq_ite, decide_eq_true_eq, if_neg hi]
  ·rcases y0O l id with h | ⟨h1, h2, h3⟩ <;> unfold yR at *
   ·rw [h]
    rfl
   ·rw [if_neg (by omega)]
 unfold YY
 rw [key]
 rfl
def yhm (l : List Int) (v : Int) : Bool := decide (0 ≤ zF (fun a : Int => a == v) l 0)
theorem yc4 (l : List Int) (v : Int) (hl : l.length ≤ 1073741824) : Kz (l, v) = some (yhm l v) := by
 unfold Kz y1c
 refine (YA (step := wB _ _) (fun i => (l, v, i)) (fun a : Int => a == v) (fun _ => some true) (some false) ybx l (by omega) ?_ ?_).trans ?_
 ·intro again i h0 h1
  have hw : Go.IntKind.wrap .i64 (i + 1) = i + 1 := w64 (by omega) (by omega)
  unfold wB
  simp only [Bool.cond_eq_ite, decide_eq_true_eq, h0, h1, if_true, hw]
  rfl
 ·intro again i hi
  unfold wB
  simp only [Bool.cond_eq_ite, decide_eq_true_eq, if_neg hi]
 ·unfold yhm
  by_cases h : zF (fun a : Int => a == v) l 0 < 0
  ·rw [if_pos h, decide_eq_false (by omega)]
  ·rw [if_neg h, decide_eq_true (by omega)]
theorem yc5 (l : List Int) (v : Int) (hl : l.length ≤ 1073741824) : Yz (l, v) = some (yhm l v) := by
 have key : Zq (l, v) = some (zF (fun a : Int => a == v) l 0) := by
  unfold Zq va
  refine (YA (step := YM _ _) (fun i => (l, v, (l.length : Int), i)) (fun a : Int => a == v) (fun x => some x) (some (-1)) ybx l (by omega) ?_ ?_).trans ?_
  ·intro again i h0 h1
   have hw : Go.IntKind.wrap .i64 (i + 1) = i + 1 := w64 (by omega) (by omega)
   unfold YM
   have e : (v == (zu l i)) = ((zu l i) == v) := Bool.beq_comm
   simp only [Bool.cond_eq_ite, decide_eq_true_eq, h0, h1, if_true, hw, e]
   rfl
  ·intro again i hi
   unfold YM
   simp only [Bool.cond_eq_ite, decide_eq_true_eq, if_neg hi]
  ·rcases Yc (fun a : Int => a == v) ybx l 0 (Int.le_refl _) with h | ⟨h1, h2, h3⟩
   ·rw [h]
    rfl
   ·rw [if_neg (by omega)]
 unfold Yz
 rw [key]
 rfl
def K7 (l : List y9) : Nat → Int → List Int
 | 0, _ => []
 | n + 1, at_ => if at_ < 0 then [] else (l.getD at_.toNat yy).1 :: K7 l n (yR l (l.getD at_.toNat yy).2)
def yO (l : List y9) (id : Int) : List Int := K7 l (l.length + 1) (yR l id)
theorem kv (l : List y9) (n : Nat) (i : Int) (h : 0 ≤ i) : K7 l (n + 1) i = (l.getD i.toNat yy).1 :: K7 l n (yR l (l.getD i.toNat yy).2) := by rw [K7, if_neg (by omega)]
theorem ygq (l : List y9) (n : Nat) : K7 l n (-1) = [] := by cases n <;> simp [K7]
theorem y9P (l : List y9) : ∀ (n : Nat) (i : Int), (K7 l n i).length ≤ n
 | 0, _ => by simp [K7]
 | n + 1, i => by
  rw [K7]
  split
  ·simp
  ·have := y9P l n (yR l (l.getD i.toNat yy).2)
   simp only [List.length_cons]
   omega
theorem y1g (l : List y9) (id : Int) (hl : l.length ≤ 1048576) : JW (l, id) = some (yO l id) := by
 unfold JW QV yO
 rw [Zz l id (by omega), Option.bind_some]
 have key := Zy (step := WK (fun x4 => some x4)) (fun t : WJ => l.length + 1 - t.2.2.length) (fun t => t.1 = l ∧ t.2.2.length ≤ l.length + 1 ∧ ∃ id, t.2.1 = yR l id) (fun t => some (t.2.2 ++ K7 l (l.length + 1 - t.2.2.length) t.2.1)) ?_ (l, yR l id, []) ⟨rfl, by simp, id, rfl⟩ (by simp; omega)
 ·simpa using key
 ·rintro again ⟨l', at_, o⟩ ⟨hll, ho, id', hid⟩ hag
  simp only at hll ho hid
  subst hll hid
  unfold WK
  simp only [Bool.cond_eq_ite, decide_eq_true_eq, List.length_cons, List.length_nil, Nat.zero_add]
  rcases y0O l' id' with h | ⟨h1, h2, h3⟩
  ·rw [h]
   have : K7 l' (l'.length + 1 - o.length) (-1) = [] := by
    cases l'.length + 1 - o.length <;> simp [K7]
   simp [this]
  ·simp only [ge_iff_le, h1, if_true, h2]
   by_cases hlen : (o.length : Int) ≤ (l'.length : Int)
   ·have e := Zz l' (yA l' (yR l' id')).2 (by omega)
    rw [show l'.length + 1 - o.length = (l'.length - o.length) + 1 by omega, kv _ _ _ h1]
    simp only [hlen, decide_true, Option.bind_some, if_true, e]
    have hl1 : (o ++ [(yA l' (yR l' id')).1]).length = o.length + 1 := by simp
    rw [if_pos (by omega), hag (l', yR l' (yA l' (yR l' id')).2, o ++ [(yA l' (yR l' id')).1]) ⟨rfl, by show (o ++ [(yA l' (yR l' id')).1]).length ≤ _; omega, _, rfl⟩ (by show l'.length + 1 - (o ++ [(yA l' (yR l' id')).1]).length < l'.length + 1 - o.length; omega)]
    simp only [hl1]
    rw [show l'.length + 1 - (o.length + 1) = l'.length - o.length by omega, List.append_assoc]
    rfl
   ·rw [show l'.length + 1 - o.length = 0 by omega]
    simp [hlen, K7]
theorem y1h (l : List y9) (id : Int) (hl : l.length ≤ 1048576) : JZ (l, id) = some (yO l id) := by
 unfold JZ y03 yO
 simp only
 rw [w64 (n := (l.length : Int) + 1) (by omega) (by omega)]
 have key := Zy (step := k6 (fun x2 => some x2)) (fun t : WZ => l.length + 1 - t.2.2.2.2.length) (fun t => t.1 = l ∧ t.2.2.1 = (l.length : Int) + 1 ∧ t.2.2.2.1 = (t.2.2.2.2.length : Int) ∧ t.2.2.2.2.length ≤ l.length + 1) (fun t => some (t.2.2.2.2 ++ K7 l (l.length + 1 - t.2.2.2.2.length) (yR l t.2.1))) ?_ (l, id, (l.length : Int) + 1, 0, []) ⟨rfl, rfl, by simp, by simp⟩ (by simp; omega)
 ·simpa using key
 ·rintro again ⟨l', id', n, i, o⟩ ⟨hll, hn, hi, ho⟩ hag
  simp only at hll ho hn hi
  subst hll hn hi
  unfold k6
  have e := ku l' id' (by omega)
  simp only [Bool.cond_eq_ite, decide_eq_true_eq, e, Option.bind_some, List.length_cons, List.length_nil, Nat.zero_add]
  by_cases hlen : (o.length : Int) < (l'.length : Int) + 1
  ·rw [if_pos hlen, show l'.length + 1 - o.length = (l'.length - o.length) + 1 by omega]
   rcases y0O l' id' with h | ⟨h1, h2, h3⟩
   ·rw [h, ygq]
    simp
   ·have hw : Go.IntKind.wrap .i64 ((o.length : Int) + 1) = (o.length : Int) + 1 := w64 (by omega) (by omega)
    have hl1 : (o ++ [id']).length = o.length + 1 := by simp
    rw [kv _ _ _ h1, if_neg (by omega), if_pos (by omega), if_pos h1, if_pos h2, hw, hag (l', (yA l' (yR l' id')).2, (l'.length : Int) + 1, (o.length : Int) + 1, o ++ [id']) ⟨rfl, rfl, by show _ = ((o ++ [id']).length : Int); rw [hl1]; rfl, by show (o ++ [id']).length ≤ _; omega⟩ (by show l'.length + 1 - (o ++ [id']).length < l'.length + 1 - o.length; omega), h3]
    simp only [hl1]
    rw [show l'.length + 1 - (o.length + 1) = l'.length - o.length by omega, List.append_assoc]
    rfl
  ·rw [if_neg hlen, show l'.length + 1 - o.length = 0 by omega]
   simp [K7]
end Go.Proofs.YtjllpipmaejeoaaGreat.Pl
namespace Go.Proofs.YtjllpipmaejeoaaGreat.Pl
open Go.Proofs.YtjllpipmaejeoaaGreat.R Go.Proofs.YtjllpipmaejeoaaGreat.XW
theorem ZK (x a b : Int) : yB (x, a, b) = some (inR x a b) := by
 unfold yB inR
 by_cases h : x ≥ a <;> simp [h]
theorem jd (x a b : Int) : yM (x, a, b) = some (inR x a b) := by
 unfold yM inR
 by_cases h : x ≥ a <;> simp [h]
theorem bi (x y : Int) : ((x == y) = true) = (x = y) := by simp
end Go.Proofs.YtjllpipmaejeoaaGreat.Pl
namespace Go.Proofs.YtjllpipmaejeoaaGreat.Pl
open Go.Proofs.YtjllpipmaejeoaaGreat.R Go.Proofs.YtjllpipmaejeoaaGreat.XW
def Yq {A : Type} (p : Int → A → Bool) : List A → Int → Bool
 | [], _ => false
 | a :: l, i => p i a || Yq p l (i + 1)
theorem yc6 {A : Type} (p q : Int → A → Bool) : ∀ (l : List A) (i : Int), Yq (fun i a => p i a || q i a) l i = (Yq p l i || Yq q l i)
 | [], _ => rfl
 | a :: l, i => by
  rw [Yq, Yq, Yq, yc6 p q l (i + 1)]
  cases p i a <;> cases q i a <;> cases Yq p l (i + 1) <;> rfl
theorem y6x {A : Type} {p q : Int → A → Bool} : ∀ (l : List A) (i : Int), (∀ j a, i ≤ j → p j a = q j a) → Yq p l i = Yq q l i
 | [], _, _ => rfl
 | a :: l, i, h => by rw [Yq, Yq, h i a (Int.le_refl _), y6x l (i + 1) (fun j a hj => h j a (by omega))]
theorem J6 {A : Type} (da : A) {p : Int → A → Bool} : ∀ (l : List A) (i : Int), Yq p l i = false → ∀ j : Nat, j < l.length → p (i + j) (l.getD j da) = false
 | a :: l, i, h, 0, _ => by
  rw [Yq, Bool.or_eq_false_iff] at h
  simpa using h.1
 | a :: l, i, h, j + 1, hj => by
  rw [Yq, Bool.or_eq_false_iff] at h
  have := J6 da l (i + 1) h.2 j (by simpa using hj)
  rw [show i + ((j + 1 : Nat) : Int) = i + 1 + (j : Int) by omega, List.getD_cons_succ]
  exact this
theorem y47 {A S R : Type} (p : Int → A → Bool) (f : S → A → S) (r : Option R) (k : S → Option R) : ∀ (l : List A) (i : Int) (s : S), y91 (fun i s a => if p i a = true then .error r else .ok (f s a)) k l i s = if Yq p l i = true then r else k (l.foldl f s)
 | [], _, _ => by simp [y91, Yq]
 | a :: l, i, s => by
  rw [y91, Yq]
  by_cases h : p i a = true
  ·simp [h]
  ·have hf : p i a = false := by simpa using h
   simp only [hf, Bool.false_eq_true, if_false, Bool.false_or, List.foldl_cons]
   exact y47 p f r k l (i + 1) (f s a)
theorem y4U {T A S R : Type} {step : (T → Option R) → T → Option R} (mk : Int → S → T) (g : Int → S → A → Except (Option R) S) (k : S → Option R) (da : A) (l : List A) (hl : l.length ≤ 1099511627776) (I : Nat → S → Prop)
  (h : ∀ again i s, 0 ≤ i → i < (l.length : Int) → I i.toNat s → (step again (mk i s) = match g i s (l.getD i.toNat da) with
   | .error r => r
   | .ok s' => again (mk (i + 1) s')) ∧ ∀ s', g i s (l.getD i.toNat da) = .ok s' → I (i.toNat + 1) s')
  (hd : ∀ again i s, ¬ i < (l.length : Int) → step again (mk i s) = k s) (i0 : Int) (h00 : 0 ≤ i0) (s : S) (hs : I i0.toNat s) : zR step Yd (mk i0 s) = y91 g k (l.drop i0.toNat) i0 s := by
 have key : ∀ (n : Nat) (i : Int) (s : S), 0 ≤ i → I i.toNat s → l.length - i.toNat < n → zR step n (mk i s) = y91 g k (l.drop i.toNat) i s := by
  intro n
  induction n with
  | zero => intro i s _ _ hn; omega
  | succ n ih =>
   intro i s h0 hI hn
   rw [zR]
   by_cases hi : i < (l.length : Int)
   ·obtain ⟨e, hI'⟩ := h (zR step n) i s h0 hi hI
    have e1 : (i + 1).toNat = i.toNat + 1 := by omega
    rw [e, JG da l i h0 hi, y91]
    cases hg : g i s (l.getD i.toNat da) with
    | error r => rfl
    | ok s' => exact ih (i + 1) s' (by omega) (by rw [e1]; exact hI' s' hg) (by omega)
   ·rw [hd _ i s hi, List.drop_of_length_le (by omega)]
    rfl
 exact key Yd i0 s h00 hs (by rw [y1x]; omega)
theorem y48 {T A S R : Type} {step : (T → Option R) → T → Option R} (mk : Int → S → T) (p : Int → A → Bool) (f : S → A → S) (r : Option R) (k : S → Option R) (da : A) (l : List A) (hl : l.length ≤ 1099511627776)
  (h : ∀ again i s, 0 ≤ i → i < (l.length : Int) → step again (mk i s) = if p i (l.getD i.toNat da) = true then r else again (mk (i + 1) (f s (l.getD i.toNat da))))
  (hd : ∀ again i s, ¬ i < (l.length : Int) → step again (mk i s) = k s) (s : S) : zR step Yd (mk 0 s) = if Yq p l 0 = true then r else k (l.foldl f s) := by
 rw [← y47 p f r k l 0 s]
 have := y4U (step := step) mk (fun i s a => if p i a = true then .error r else .ok (f s a)) k da l hl (fun _ _ => True) (fun again i s h0 h1 _ => ⟨?_, fun _ _ => trivial⟩) hd 0 (Int.le_refl _) s trivial
 ·simpa using this
 ·rw [h again i s h0 h1]
  by_cases hp : p i (l.getD i.toNat da) = true
  ·rw [if_pos hp, if_pos hp]
  ·rw [if_neg hp, if_neg hp]
theorem zW {T A R : Type} {step : (T → Option R) → T → Option R} (mk : Int → T) (p : Int → A → Bool) (r k : Option R) (da : A) (l : List A) (hl : l.length ≤ 1099511627776)
  (h : ∀ again i, 0 ≤ i → i < (l.length : Int) → step again (mk i) = if p i (l.getD i.toNat da) = true then r else again (mk (i + 1)))
  (hd : ∀ again i, ¬ i < (l.length : Int) → step again (mk i) = k) : zR step Yd (mk 0) = if Yq p l 0 = true then r else k :=
 y48 (fun i (_ : Unit) => mk i) p (fun _ _ => ()) r (fun _ => k) da l hl (fun again i _ h0 h1 => h again i h0 h1) (fun again i _ hi => hd again i hi) ()
end Go.Proofs.YtjllpipmaejeoaaGreat.Pl
namespace Go.Proofs.YtjllpipmaejeoaaGreat.Pl
open Go.Proofs.YtjllpipmaejeoaaGreat.R Go.Proofs.YtjllpipmaejeoaaGreat.XW
def y0i (blk : Int) (s : List y7) (a : y7) : List y7 := if a.1 == blk then s ++ [a] else s
def zG (ks : List y7) (blk : Int) : List y7 := ks.foldl (y0i blk) []
theorem y2S (blk : Int) (s : List y7) (a : y7) : (y0i blk s a).length ≤ s.length + 1 := by
 unfold y0i
 split <;> simp
theorem y4V (blk : Int) : ∀ (l s : List y7), (l.foldl (y0i blk) s).length ≤ s.length + l.length
 | [], s => by simp
 | c :: l, s => by
  have h := y4V blk l (y0i blk s c)
  have h2 := y2S blk s c
  simp only [List.foldl_cons, List.length_cons]
  omega
theorem y9Q : ∀ (t : List y0) (s : List y7), ((t.foldl kt s).length : Int) ≤ s.length + kr Qu t
 | [], s => by simp [kr]
 | n :: t, s => by
  have h := y9Q t (kt s n)
  have h1 := KD n
  have h2 := y2e n
  have h3 : (kt s n).length = s.length + (yz n).length := List.length_append
  simp only [List.foldl_cons, Yj]
  omega
theorem ygr (t : List y0) : ((yb t).length : Int) ≤ kr Qu t := by
 have := y9Q t []
 simpa [yb] using this
structure TOk (t : List y0) : Prop where
 len : t.length ≤ 1048576
 nodes : ∀ n ∈ t, List.length n ≤ 1073741824
 sum : kr Qu t ≤ 1048576
theorem TOk.keys {t : List y0} (h : TOk t) : (yb t).length ≤ 1048576 := by
 have h1 := ygr t
 have h2 := h.sum
 omega
theorem y5L (q : List Int) (t : List y0) (blk : Int) (ht : TOk t) : WL (q, t, blk) = some (zG (yb t) blk) := by
 unfold WL QW
 have hk := ht.keys
 have e : yP (q, t) = some (yb t) := YJ q t (by have := ht.len; omega) ht.nodes ht.sum
 simp only [e, Option.bind_some]
 generalize yb t = ks at hk
 refine zY (step := Jk _) (fun (i : Int) (s : List y7) => (blk, i, s, ks)) (fun s => some s) yF (y0i blk) ks (by omega) (fun i s => s.length ≤ i) ?_ ?_ [] (by simp)
 ·intro again i s h0 h1 hI
  have hw : Go.IntKind.wrap .i64 (i + 1) = i + 1 := w64 (by omega) (by omega)
  have hs := y2S blk s (ks.getD i.toNat yF)
  refine ⟨?_, by omega⟩
  have c1 : (s.length + 1) * 40 < 140737488355328 := by omega
  clear hs
  unfold Jk y0i
  obtain ⟨⟨x1, x2, x3, x4, x5⟩, hx⟩ : ∃ x, y6 ks i = x := ⟨_, rfl⟩
  have hx' : ks.getD i.toNat yF = (x1, x2, x3, x4, x5) := hx
  rw [hx']
  simp only [Bool.cond_eq_ite, decide_eq_true_eq, h0, h1, if_true, hw, hx, List.length_cons, List.length_nil, Nat.zero_add, c1]
  by_cases h3 : (x1 == blk) = true
  ·rw [if_pos h3, if_pos h3]
  ·rw [if_neg h3, if_neg h3]
 ·intro again i s hi
  unfold Jk
  simp only [Bool.cond_eq_ite, decide_eq_true_eq, if_neg hi]
theorem y5M (q : List Int) (t : List y0) (blk : Int) (ht : TOk t) : WY (q, t, blk) = some (zG (yb t) blk) := by
 unfold WY y01
 have hk := ht.keys
 have e : yT (q, t) = some (yb t) := Zf q t (by have := ht.len; omega) ht.nodes ht.sum
 simp only [e, Option.bind_some]
 generalize yb t = ks at hk
 refine zY (step := Jt _) (fun (i : Int) (s : List y7) => (blk, (ks.length : Int), i, s, ks)) (fun s => some s) yF (y0i blk) ks (by omega) (fun i s => s.length ≤ i) ?_ ?_ [] (by simp)
 ·intro again i s h0 h1 hI
  have hw : Go.IntKind.wrap .i64 (i + 1) = i + 1 := w64 (by omega) (by omega)
  have hs := y2S blk s (ks.getD i.toNat yF)
  refine ⟨?_, by omega⟩
  have c1 : (s.length + 1) * 40 < 140737488355328 := by omega
  clear hs
  unfold Jt y0i
  obtain ⟨⟨x1, x2, x3, x4, x5⟩, hx⟩ : ∃ x, y6 ks i = x := ⟨_, rfl⟩
  have hx' : ks.getD i.toNat yF = (x1, x2, x3, x4, x5) := hx
  rw [hx']
  simp only [Bool.cond_eq_ite, decide_eq_true_eq, h0, h1, if_true, hw, hx, List.length_cons, List.length_nil, Nat.zero_add, c1]
  by_cases h3 : (x1 == blk) = true
  ·rw [if_pos h3, if_pos h3]
  ·rw [if_neg h3, if_neg h3]
 ·intro again i s hi
  unfold Jt
  simp only [Bool.cond_eq_ite, decide_eq_true_eq, if_neg hi]
def W6 (path : List Int) (s : Bool × y7) (a : y7) : Bool × y7 := if yhm path a.2.1 = true ∧ (s.1 = false ∨ s.2.2.1 < a.2.1) then (true, a) else s
def zB (ks : List y7) (path : List Int) : Bool × y7 := ks.foldl (W6 path) (false, (0, 0, 0, 0, 0))
def ans (r : Bool × y7) : Int × Int × Int × Int × Int × Bool := (r.2.1, r.2.2.1, r.2.2.2.1, r.2.2.2.2.1, r.2.2.2.2.2, r.1)
theorem y3p (q : List Int) (t : List y0) (blk : Int) (path : List Int) (ht : TOk t) (hp : path.length ≤ 1073741824) : jr (q, t, blk, path) = some (ans (zB (zG (yb t) blk) path)) := by
 unfold jr QX
 have hk : (zG (yb t) blk).length ≤ 1048576 := by
  have h1 := y4V blk (yb t) []
  have h2 := ht.keys
  unfold zG
  simp only [List.length_nil] at h1
  omega
 simp only [y5L q t blk ht, Option.bind_some]
 generalize zG (yb t) blk = ks at hk
 refine (zY (step := Jl _) (fun (i : Int) (s : Bool × y7) => (path, s.1, i, 0, 0, 0, 0, 0, s.2.1, s.2.2.1, s.2.2.2.1, s.2.2.2.2.1, s.2.2.2.2.2, ks)) (fun s => some (ans s)) yF (W6 path) ks (by omega) (fun _ _ => True) ?_ ?_ (false, (0, 0, 0, 0, 0)) trivial)
 ·rintro again i ⟨f, b1, b2, b3, b4, b5⟩ h0 h1 _
  have hw : Go.IntKind.wrap .i64 (i + 1) = i + 1 := w64 (by omega) (by omega)
  refine ⟨?_, trivial⟩
  unfold Jl W6
  obtain ⟨⟨x1, x2, x3, x4, x5⟩, hx⟩ : ∃ x, y6 ks i = x := ⟨_, rfl⟩
  have hx' : ks.getD i.toNat yF = (x1, x2, x3, x4, x5) := hx
  rw [hx']
  have e := yc4 path x2 hp
  simp only [Bool.cond_eq_ite, decide_eq_true_eq, h0, h1, if_true, hw, hx, e, Option.bind_some]
  cases yhm path x2 <;> cases f <;> by_cases hb : b2 < x2 <;> simp [hb]
 ·rintro again i ⟨f, b1, b2, b3, b4, b5⟩ hi
  unfold Jl
  simp only [Bool.cond_eq_ite, decide_eq_true_eq, if_neg hi]
  rfl
theorem y1i (q : List Int) (t : List y0) (blk : Int) (path : List Int) (ht : TOk t) (hp : path.length ≤ 1073741824) : ju (q, t, blk, path) = some (ans (zB (zG (yb t) blk) path)) := by
 unfold ju y02
 have hk : (zG (yb t) blk).length ≤ 1048576 := by
  have h1 := y4V blk (yb t) []
  have h2 := ht.keys
  unfold zG
  simp only [List.length_nil] at h1
  omega
 simp only [y5M q t blk ht, Option.bind_some]
 generalize zG (yb t) blk = ks at hk
 refine (zY (step := Ju _) (fun (i : Int) (s : Bool × y7) => (path, s.1, (ks.length : Int), i, 0, 0, 0, 0, 0, s.2.1, s.2.2.1, s.2.2.2.1, s.2.2.2.2.1, s.2.2.2.2.2, ks)) (fun s => some (ans s)) yF (W6 path) ks (by omega) (fun _ _ => True) ?_ ?_ (false, (0, 0, 0, 0, 0)) trivial)
 ·rintro again i ⟨f, b1, b2, b3, b4, b5⟩ h0 h1 _
  have hw : Go.IntKind.wrap .i64 (i + 1) = i + 1 := w64 (by omega) (by omega)
  refine ⟨?_, trivial⟩
  unfold Ju W6
  obtain ⟨⟨x1, x2, x3, x4, x5⟩, hx⟩ : ∃ x, y6 ks i = x := ⟨_, rfl⟩
  have hx' : ks.getD i.toNat yF = (x1, x2, x3, x4, x5) := hx
  rw [hx']
  have e := yc5 path x2 hp
  simp only [Bool.cond_eq_ite, decide_eq_true_eq, h0, h1, if_true, hw, hx, e, Option.bind_some]
  cases yhm path x2 <;> cases f <;> by_cases hb : b2 < x2 <;> simp [hb]
 ·rintro again i ⟨f, b1, b2, b3, b4, b5⟩ hi
  unfold Ju
  simp only [Bool.cond_eq_ite, decide_eq_true_eq, if_neg hi]
  rfl
def y9R (t : List y0) (l : List y9) (blk id : Int) : Bool × y7 := zB (zG (yb t) blk) (yO l id)
theorem y0P (l : List y9) (id : Int) (hl : l.length ≤ 1048576) : (yO l id).length ≤ 1073741824 := by
 have := y9P l (l.length + 1) (yR l id)
 unfold yO
 omega
theorem y9S (q : List Int) (t : List y0) (l : List y9) (blk id : Int) (ht : TOk t) (hl : l.length ≤ 1048576) : vT (q, t, l, blk, id) = some (ans (y9R t l blk id)) := by
 unfold vT
 simp only [y1g l id hl, y3p q t blk _ ht (y0P l id hl), Option.bind_some]
 rfl
theorem y3q (q : List Int) (t : List y0) (l : List y9) (blk id : Int) (ht : TOk t) (hl : l.length ≤ 1048576) : kX (q, t, l, blk, id) = some (ans (y9R t l blk id)) := by
 unfold kX
 simp only [y1h l id hl, y1i q t blk _ ht (y0P l id hl), Option.bind_some]
 rfl
def y8A (t : List y0) (l : List y9) (k : y7) (id : Int) : Bool := (y9R t l k.1 id).1 && ((y9R t l k.1 id).2.2.1 == k.2.1)
theorem y9T (q : List Int) (t : List y0) (l : List y9) (k1 k2 k3 k4 k5 id : Int) (ht : TOk t) (hl : l.length ≤ 1048576) : vU (q, t, l, k1, k2, k3, k4, k5, id) = some (y8A t l (k1, k2, k3, k4, k5) id) := by
 unfold vU y8A
 simp only [y9S q t l k1 id ht hl, Option.bind_some, ans]
 cases (y9R t l k1 id).1 <;> rfl
theorem y9U (q : List Int) (t : List y0) (l : List y9) (k1 k2 k3 k4 k5 id : Int) (ht : TOk t) (hl : l.length ≤ 1048576) : Va (q, t, l, k1, k2, k3, k4, k5, id) = some (y8A t l (k1, k2, k3, k4, k5) id) := by
 unfold Va y8A
 simp only [y3q q t l k1 id ht hl, Option.bind_some, ans]
 cases (y9R t l k1 id).1 <;> rfl
def K8 (t : List y0) (l : List y9) (k : y7) (v : ye) : Bool := decide (v.2.2.1 > k.1) && y8A t l k v.2.1
def K9 (t : List y0) (l : List y9) (vs : List ye) (k : y7) : Bool := decide (0 ≤ zF (K8 t l k) vs 0)
theorem y2T (q : List Int) (t : List y0) (l : List y9) (cs : List y8) (vs : List ye) (z k1 k2 k3 k4 k5 : Int) (ht : TOk t) (hl : l.length ≤ 1048576) (hv : vs.length ≤ 1048576) : jJ (q, t, l, cs, vs, z, k1, k2, k3, k4, k5) = some (K9 t l vs (k1, k2, k3, k4, k5)) := by
 unfold jJ Vz
 refine (YA (step := Zm _ _) (fun i => (i, q, t, l, cs, vs, z, k1, k2, k3, k4, k5)) (K8 t l (k1, k2, k3, k4, k5)) (fun _ => some true) (some false) Yi vs (by omega) ?_ ?_).trans ?_
 ·intro again i h0 h1
  have hw : Go.IntKind.wrap .i64 (i + 1) = i + 1 := w64 (by omega) (by omega)
  unfold Zm K8
  obtain ⟨⟨x1, x2, x3, x4⟩, hx⟩ : ∃ x, yi vs i = x := ⟨_, rfl⟩
  have hx' : vs.getD i.toNat Yi = (x1, x2, x3, x4) := hx
  rw [hx']
  have e := y9T q t l k1 k2 k3 k4 k5 x2 ht hl
  simp only [Bool.cond_eq_ite, decide_eq_true_eq, h0, h1, if_true, hw, hx, e, Option.bind_some]
  by_cases hb : x3 > k1 <;> cases y8A t l (k1, k2, k3, k4, k5) x2 <;> simp [hb]
 ·intro again i hi
  unfold Zm
  simp only [Bool.cond_eq_ite, decide_eq_true_eq, if_neg hi]
 ·unfold K9
  by_cases h : zF (K8 t l (k1, k2, k3, k4, k5)) vs 0 < 0
  ·rw [if_pos h, decide_eq_false (by omega)]
  ·rw [if_neg h, decide_eq_true (by omega)]
theorem Ka (q : List Int) (t : List y0) (l : List y9) (cs : List y8) (vs : List ye) (z k1 k2 k3 k4 k5 : Int) (ht : TOk t) (hl : l.length ≤ 1048576) (hv : vs.length ≤ 1048576) : Yf (q, t, l, cs, vs, z, k1, k2, k3, k4, k5) = some (K9 t l vs (k1, k2, k3, k4, k5)) := by
 unfold Yf VD
 refine (YA (step := Zu _ _) (fun i => (vs, (vs.length : Int), i, q, t, l, cs, vs, z, k1, k2, k3, k4, k5)) (K8 t l (k1, k2, k3, k4, k5)) (fun _ => some true) (some false) Yi vs (by omega) ?_ ?_).trans ?_
 ·intro again i h0 h1
  have hw : Go.IntKind.wrap .i64 (i + 1) = i + 1 := w64 (by omega) (by omega)
  unfold Zu K8
  obtain ⟨⟨x1, x2, x3, x4⟩, hx⟩ : ∃ x, yi vs i = x := ⟨_, rfl⟩
  have hx' : vs.getD i.toNat Yi = (x1, x2, x3, x4) := hx
  rw [hx']
  have e := y9U q t l k1 k2 k3 k4 k5 x2 ht hl
  simp only [Bool.cond_eq_ite, decide_eq_true_eq, h0, h1, if_true, hw, hx, e, Option.bind_some]
  by_cases hb : x3 > k1 <;> cases y8A t l (k1, k2, k3, k4, k5) x2 <;> simp [hb]
 ·intro again i hi
  unfold Zu
  simp only [Bool.cond_eq_ite, decide_eq_true_eq, if_neg hi]
 ·unfold K9
  by_cases h : zF (K8 t l (k1, k2, k3, k4, k5)) vs 0 < 0
  ·rw [if_pos h, decide_eq_false (by omega)]
  ·rw [if_neg h, decide_eq_true (by omega)]
def y1D (t : List y0) (l : List y9) (vs : List ye) (n : Int) (k : y7) : Int := if k.2.2.1 = 1 ∧ K9 t l vs k = true then Go.IntKind.wrap .i64 (n + 1) else n
def vj (t : List y0) (l : List y9) (vs : List ye) : Int := (yb t).foldl (y1D t l vs) 0
theorem Qm (q : List Int) (t : List y0) (l : List y9) (cs : List y8) (vs : List ye) (z : Int) (ht : TOk t) (hl : l.length ≤ 1048576) (hv : vs.length ≤ 1048576) : zV (q, t, l, cs, vs, z) = some (vj t l vs) := by
 unfold zV qw
 have hk := ht.keys
 have e : yT (q, t) = some (yb t) := Zf q t (by have := ht.len; omega) ht.nodes ht.sum
 simp only [e, Option.bind_some]
 unfold vj
 generalize yb t = ks at hk
 refine zY (step := jb _) (fun (i : Int) (s : Int) => (s, (ks.length : Int), i, q, t, l, cs, vs, z, ks)) (fun s => some s) yF (y1D t l vs) ks (by omega) (fun _ _ => True) ?_ ?_ 0 trivial
 ·intro again i s h0 h1 _
  have hw : Go.IntKind.wrap .i64 (i + 1) = i + 1 := w64 (by omega) (by omega)
  refine ⟨?_, trivial⟩
  unfold jb y1D
  obtain ⟨⟨x1, x2, x3, x4, x5⟩, hx⟩ : ∃ x, y6 ks i = x := ⟨_, rfl⟩
  have hx' : ks.getD i.toNat yF = (x1, x2, x3, x4, x5) := hx
  rw [hx']
  have e := Ka q t l cs vs z x1 x2 x3 x4 x5 ht hl hv
  simp only [Bool.cond_eq_ite, decide_eq_true_eq, h0, h1, if_true, hw, hx, e, Option.bind_some]
  by_cases hb : x3 = 1 <;> cases K9 t l vs (x1, x2, x3, x4, x5) <;> simp [hb]
 ·intro again i s hi
  unfold jb
  simp only [Bool.cond_eq_ite, decide_eq_true_eq, if_neg hi]
end Go.Proofs.YtjllpipmaejeoaaGreat.Pl
namespace Go.Proofs.YtjllpipmaejeoaaGreat.Pl
open Go.Proofs.YtjllpipmaejeoaaGreat.R Go.Proofs.YtjllpipmaejeoaaGreat.XW
def zO (k : y7) : Bool := inR k.1 0 15 && (inR k.2.1 1 60 && (inR k.2.2.1 0 2 && (if k.2.2.1 = 1 then inR k.2.2.2.1 0 23 && inR k.2.2.2.2 0 999 else (k.2.2.2.1 == 0) && (k.2.2.2.2 == 0))))
theorem y2f (a b c d e : Int) : We (a, b, c, d, e) = some (zO (a, b, c, d, e)) := by
 unfold We zO
 simp only [ZK, Option.bind_some]
 by_cases hc : c = 1
 ·subst hc
  cases inR a 0 15 <;> cases inR b 1 60 <;> cases inR 1 0 2 <;> cases inR d 0 23 <;> rfl
 ·have hc' : (c == 1) = false := by simpa using hc
  rw [hc', if_neg hc]
  cases inR a 0 15 <;> cases inR b 1 60 <;> cases inR c 0 2 <;> cases (d == 0) <;> rfl
theorem y2g (a b c d e : Int) : Wh (a, b, c, d, e) = some (zO (a, b, c, d, e)) := by
 unfold Wh zO
 simp only [jd, Option.bind_some]
 by_cases hc : c = 1
 ·subst hc
  cases inR a 0 15 <;> cases inR b 1 60 <;> cases inR 1 0 2 <;> cases inR d 0 23 <;> rfl
 ·have hc' : (c != 1) = true := by simpa using hc
  rw [hc', if_neg hc]
  cases inR a 0 15 <;> cases inR b 1 60 <;> cases inR c 0 2 <;> cases (d == 0) <;> rfl
def wj (l : List y7) (i : Int) (a : y7) : Bool := decide (0 < i) && !W4 (l.getD (i - 1).toNat yF) a
def Wl (l : List y7) : Bool := !Yq (fun _ a => !zO a) l 0 && (!Yq (wj l) l 0 && decide ((l.length : Int) ≤ 60))
theorem y8B (l : List y7) (hl : l.length ≤ 1073741824) : wo l = some (!Yq (wj l) l 0) := by
 unfold wo Qa
 have key := y4U (step := jB (fun x2 => some x2) (fun x3 => some true)) (fun i (_ : Unit) => (l, i)) (fun i (s : Unit) a => if (decide (0 < i) && !W4 (l.getD (i - 1).toNat yF) a) = true ∨ i = 0 then .error (some false) else .ok s) (fun _ => some true) yF l (by omega) (fun i _ => 1 ≤ i) ?_ ?_ 1 (by omega) () (by decide)
 ·rw [key]
  have h1 : Yq (wj l) l 0 = Yq (wj l) (l.drop 1) 1 := by
   cases l with
   | nil => rfl
   | cons a l => simp [Yq, wj]
  rw [h1]
  have h2 := y47 (fun i a => decide ((decide (0 < i) && !W4 (l.getD (i - 1).toNat yF) a) = true ∨ i = 0)) (fun (s : Unit) _ => s) (some false) (fun _ => some true) (l.drop 1) 1 ()
  simp only [decide_eq_true_eq] at h2
  rw [show (1 : Int).toNat = 1 from rfl, h2]
  have h3 : Yq (fun i a => decide ((decide (0 < i) && !W4 (l.getD (i - 1).toNat yF) a) = true ∨ i = 0)) (l.drop 1) 1 = Yq (wj l) (l.drop 1) 1 := y6x _ _ fun j a hj => by
   unfold wj
   have : ¬ j = 0 := by omega
   simp [this]
  rw [h3]
  cases Yq (wj l) (l.drop 1) 1 <;> rfl
 ·intro again i s h0 h1 hI
  have hi : 1 ≤ i := by
   have : (1 : Nat) ≤ i.toNat := hI
   omega
  have hw : Go.IntKind.wrap .i64 (i + 1) = i + 1 := w64 (by omega) (by omega)
  have hm : Go.IntKind.wrap .i64 (i - 1) = i - 1 := w64 (by omega) (by omega)
  refine ⟨?_, fun _ _ => by omega⟩
  unfold jB
  obtain ⟨⟨x1, x2, x3, x4, x5⟩, hx⟩ : ∃ x, y6 l i = x := ⟨_, rfl⟩
  have hx' : l.getD i.toNat yF = (x1, x2, x3, x4, x5) := hx
  obtain ⟨⟨y1, y2, y3, y4, y5⟩, hy⟩ : ∃ y, y6 l (i - 1) = y := ⟨_, rfl⟩
  have hy' : l.getD (i - 1).toNat yF = (y1, y2, y3, y4, y5) := hy
  rw [hx', hy']
  have h3 : 0 ≤ i - 1 := by omega
  have h4 : i - 1 < (l.length : Int) := by omega
  have h5 : 0 < i := by omega
  have h6 : ¬ i = 0 := by omega
  simp only [Bool.cond_eq_ite, decide_eq_true_eq, h0, h1, if_true, hw, hm, hx, hy, h3, h4, h5, h6, y0f, Option.bind_some, decide_true, Bool.true_and, or_false]
  cases W4 (y1, y2, y3, y4, y5) (x1, x2, x3, x4, x5) <;> rfl
 ·intro again i s hi
  unfold jB
  simp only [Bool.cond_eq_ite, decide_eq_true_eq, if_neg hi]
theorem y8C (l : List y7) (hl : l.length ≤ 1073741824) : Ky l = some (Wl l) := by
 unfold Ky y18 Wl
 refine (zW (step := wq _ _) (fun i => (l, i)) (fun _ a => !zO a) (some false) (some (!Yq (wj l) l 0 && decide ((l.length : Int) ≤ 60))) yF l (by omega) ?_ ?_).trans ?_
 ·intro again i h0 h1
  have hw : Go.IntKind.wrap .i64 (i + 1) = i + 1 := w64 (by omega) (by omega)
  unfold wq
  obtain ⟨⟨x1, x2, x3, x4, x5⟩, hx⟩ : ∃ x, y6 l i = x := ⟨_, rfl⟩
  have hx' : l.getD i.toNat yF = (x1, x2, x3, x4, x5) := hx
  rw [hx']
  simp only [Bool.cond_eq_ite, decide_eq_true_eq, h0, h1, if_true, hw, hx, y2f, Option.bind_some]
 ·intro again i hi
  unfold wq
  simp only [Bool.cond_eq_ite, decide_eq_true_eq, if_neg hi, y8B l hl, Option.bind_some]
  cases Yq (wj l) l 0 <;> rfl
 ·cases Yq (fun _ a => !zO a) l 0 <;> rfl
theorem y8D (l : List y7) (hl : l.length ≤ 1073741824) : KA l = some (Wl l) := by
 unfold KA y1d Wl
 refine (zW (step := wE _ _) (fun i => (l, l, (l.length : Int), i)) (fun i a => !zO a || wj l i a) (some false) (some (decide ((l.length : Int) ≤ 60))) yF l (by omega) ?_ ?_).trans ?_
 ·intro again i h0 h1
  have hw : Go.IntKind.wrap .i64 (i + 1) = i + 1 := w64 (by omega) (by omega)
  have hm : Go.IntKind.wrap .i64 (i - 1) = i - 1 := w64 (by omega) (by omega)
  unfold wE wj
  obtain ⟨⟨x1, x2, x3, x4, x5⟩, hx⟩ : ∃ x, y6 l i = x := ⟨_, rfl⟩
  have hx' : l.getD i.toNat yF = (x1, x2, x3, x4, x5) := hx
  obtain ⟨⟨y1, y2, y3, y4, y5⟩, hy⟩ : ∃ y, y6 l (i - 1) = y := ⟨_, rfl⟩
  have hy' : l.getD (i - 1).toNat yF = (y1, y2, y3, y4, y5) := hy
  rw [hx', hy']
  simp only [Bool.cond_eq_ite, decide_eq_true_eq, h0, h1, if_true, hw, hm, hx, hy, y2g, y0g, Option.bind_some]
  cases zO (x1, x2, x3, x4, x5)
  ·rfl
  ·by_cases h5 : 0 < i
   ·have h3 : 0 ≤ i - 1 := by omega
    have h4 : i - 1 < (l.length : Int) := by omega
    simp only [gt_iff_lt, h5, h3, h4, if_true, decide_true]
    cases W4 (y1, y2, y3, y4, y5) (x1, x2, x3, x4, x5) <;> rfl
   ·simp [h5]
 ·intro again i hi
  unfold wE
  simp only [Bool.cond_eq_ite, decide_eq_true_eq, if_neg hi]
 ·rw [yc6]
  cases Yq (fun _ a => !zO a) l 0 <;> cases Yq (wj l) l 0 <;> rfl
def y2h (_ : Int) (a : ya) : Bool := !Wl a || ((List.length a : Int) == 0)
def y1j (s : Int) (a : ya) : Int := Go.IntKind.wrap .i64 (s + (List.length a : Int))
def YB (n : List ya) : Bool := !Yq y2h n 0 && (decide ((n.length : Int) ≤ 3) && decide (n.foldl y1j 0 ≤ 8))
theorem y8E (n : List ya) (hn : n.length ≤ 1073741824) : ws n = some (n.foldl y1j 0) := by
 unfold ws Qb
 refine zY (step := jC _) (fun (i s : Int) => (s, i, n)) (fun s => some s) z7 y1j n (by omega) (fun _ _ => True) ?_ ?_ 0 trivial
 ·intro again i s h0 h1 _
  have hw : Go.IntKind.wrap .i64 (i + 1) = i + 1 := w64 (by omega) (by omega)
  refine ⟨?_, trivial⟩
  unfold jC
  simp only [Bool.cond_eq_ite, decide_eq_true_eq, h0, h1, if_true, hw]
  rfl
 ·intro again i s hi
  unfold jC
  simp only [Bool.cond_eq_ite, decide_eq_true_eq, if_neg hi]
theorem VR (n : List ya) (hn : n.length ≤ 1073741824) (hm : ∀ s ∈ n, List.length s ≤ 1073741824) : zz n = some (YB n) := by
 unfold zz QK YB
 refine (zW (step := Jc _ _) (fun i => (i, n)) y2h (some false) (some (decide ((n.length : Int) ≤ 3) && decide (n.foldl y1j 0 ≤ 8))) z7 n (by omega) ?_ ?_).trans ?_
 ·intro again i h0 h1
  have hw : Go.IntKind.wrap .i64 (i + 1) = i + 1 := w64 (by omega) (by omega)
  have e := y8C (yp n i) (hm _ (yX z7 n i h0 h1))
  unfold Jc y2h
  have hx : n.getD i.toNat z7 = yp n i := rfl
  rw [hx]
  simp only [Bool.cond_eq_ite, decide_eq_true_eq, h0, h1, if_true, hw, e, Option.bind_some]
  cases Wl (yp n i)
  ·rfl
  ·rfl
 ·intro again i hi
  unfold Jc
  simp only [Bool.cond_eq_ite, decide_eq_true_eq, if_neg hi, y8E n hn, Option.bind_some]
  by_cases h3 : (n.length : Int) ≤ 3 <;> simp [h3]
 ·cases Yq y2h n 0 <;> rfl
theorem VS (n : List ya) (hn : n.length ≤ 1073741824) (hm : ∀ s ∈ n, List.length s ≤ 1073741824) : zM n = some (YB n) := by
 unfold zM y05 YB
 refine (y48 (step := Jw _ _) (fun (i s : Int) => (s, n, (n.length : Int), i, n)) y2h y1j (some false) (fun s => some (decide ((n.length : Int) ≤ 3) && decide (s ≤ 8))) z7 n (by omega) ?_ ?_ 0).trans ?_
 ·intro again i s h0 h1
  have hw : Go.IntKind.wrap .i64 (i + 1) = i + 1 := w64 (by omega) (by omega)
  have e := y8D (yp n i) (hm _ (yX z7 n i h0 h1))
  unfold Jw y2h y1j
  have hx : n.getD i.toNat z7 = yp n i := rfl
  rw [hx]
  simp only [Bool.cond_eq_ite, decide_eq_true_eq, h0, h1, if_true, hw, e, Option.bind_some]
  cases Wl (yp n i)
  ·rfl
  ·rfl
 ·intro again i s hi
  unfold Jw
  simp only [Bool.cond_eq_ite, decide_eq_true_eq, if_neg hi]
  by_cases h3 : (n.length : Int) ≤ 3 <;> simp [h3]
 ·cases Yq y2h n 0 <;> rfl
end Go.Proofs.YtjllpipmaejeoaaGreat.Pl
namespace Go.Proofs.YtjllpipmaejeoaaGreat.Pl
open Go.Proofs.YtjllpipmaejeoaaGreat.R Go.Proofs.YtjllpipmaejeoaaGreat.XW
def small (is : List yc) (ns : List y0) (ags : List y9) (cs : List y8) (vs : List ye) : Prop :=
 is.length ≤ 1048576 ∧ ns.length ≤ 1048576 ∧ kr Qu ns ≤ 1048576 ∧ ags.length ≤ 1048576 ∧ cs.length ≤ 1048576 ∧ vs.length ≤ 1048576
theorem qx {ns : List y0} (h : kr Qu ns ≤ 1048576) {n : List ya} (hn : n ∈ ns) : n.length ≤ 1048576 ∧ ∀ s ∈ n, List.length s ≤ 1048576 := by
 have h1 := (y0L KC hn).1
 have h2 := W3 K6 n
 have h3 : Qu n = (List.length n : Int) + kr qc n := rfl
 refine ⟨by omega, fun s hs => ?_⟩
 have h4 := (y0L K6 hs).1
 have h5 : qc s = (List.length s : Int) := rfl
 omega
end Go.Proofs.YtjllpipmaejeoaaGreat.Pl
namespace Go.Proofs.YtjllpipmaejeoaaGreat.Pl
open Go.Proofs.YtjllpipmaejeoaaGreat.R Go.Proofs.YtjllpipmaejeoaaGreat.XW
def J7 (a : y7) : Int := Go.IntKind.wrap .i64 (Go.IntKind.wrap .i64 ((64 : Int) * a.1) + a.2.1)
def yhn (q : List Int) (i : Int) (_ : Int) (a : y7) : Bool := decide (J7 a < q.getD i.toNat 0) || (decide (i + 1 < (q.length : Int)) && decide (J7 a ≥ q.getD (i + 1).toNat 0))
theorem TOk.node {t : List y0} (h : TOk t) {n : List ya} (hn : n ∈ t) : n.length ≤ 1048576 ∧ ∀ s ∈ n, List.length s ≤ 1048576 := qx h.sum hn
theorem TOk.sumK {t : List y0} (h : TOk t) {n : List ya} (hn : n ∈ t) : kr qc n ≤ 1048576 := by
 have h1 := (y0L KC hn).1
 have h2 := y2e n
 have h3 := h.sum
 omega
theorem yer {R : Type} (k0 : (Int × Bool × Int × List yc × List y0 × List ya) → Option R) (k1 : (Int × Int × List yc × List y0 × List ya) → Option R) (i k : Int) (q : List Int) (t : List y0) (n : List ya) (hk0 : 0 ≤ k) (hk : k < (n.length : Int)) (hi0 : 0 ≤ i) (hi : i < (q.length : Int)) (hq : q.length ≤ 1048576) (hs : List.length (yp n k) ≤ 1048576) :
  vE k0 k1 (i, k, 0, q, t, n) = if Yq (yhn q i) (yp n k) 0 = true then k0 (i, false, k, q, t, n) else k1 (i, k, q, t, n) := by
 unfold vE
 refine zW (step := Jd k0 k1) (fun j => (i, k, j, q, t, n)) (yhn q i) _ _ yF (yp n k) (by omega) ?_ ?_
 ·intro again j h0 h1
  have hw : Go.IntKind.wrap .i64 (j + 1) = j + 1 := w64 (by omega) (by omega)
  have hwi : Go.IntKind.wrap .i64 (i + 1) = i + 1 := w64 (by omega) (by omega)
  unfold Jd yhn JQ JP J7
  obtain ⟨⟨x1, x2, x3, x4, x5⟩, hx⟩ : ∃ x, y6 (yp n k) j = x := ⟨_, rfl⟩
  have hx' : (yp n k).getD j.toNat yF = (x1, x2, x3, x4, x5) := hx
  have e1 : q.getD i.toNat 0 = zu q i := rfl
  have e2 : q.getD (i + 1).toNat 0 = zu q (i + 1) := rfl
  rw [hx', e1, e2]
  have hi1 : 0 ≤ i + 1 := by omega
  simp only [Bool.cond_eq_ite, decide_eq_true_eq, h0, h1, hk0, hk, hi0, hi, hi1, if_true, hw, hwi, hx, Option.bind_some]
  by_cases h2 : Go.IntKind.wrap .i64 (Go.IntKind.wrap .i64 ((64 : Int) * x1) + x2) < zu q i
  ·simp [h2]
  ·by_cases h3 : i + 1 < (q.length : Int)
   ·simp [h2, h3]
   ·simp [h2, h3]
 ·intro again j hj
  unfold Jd
  simp only [Bool.cond_eq_ite, decide_eq_true_eq, hk0, hk, if_true, if_neg hj]
def yaX (q : List Int) (i : Int) (_ : Int) (s : ya) : Bool := Yq (yhn q i) s 0
def y6y (n : y0) : Bool := ((yz n).length : Int) == 0
def y2i (q : List Int) (i : Int) (n : y0) : Bool := YB n && (!(decide (0 < i) && y6y n) && !Yq (yaX q i) n 0)
theorem y5N (q : List Int) (t : List y0) (i : Int) (ht : TOk t) (hi0 : 0 ≤ i) (hi : i < (t.length : Int)) (hq : q.length = t.length) : WA (q, t, i) = some (y2i q i (yf t i)) := by
 have hmem : yf t i ∈ t := yX yg t i hi0 hi
 obtain ⟨hn, hs⟩ := ht.node hmem
 have hlen := ht.len
 have hq1 : i < (q.length : Int) := by omega
 have hq2 : q.length ≤ 1048576 := by omega
 have e1 := VR (yf t i) (by omega) (fun s hh => by have := hs s hh; omega)
 have e2 : yC (yf t i) = some (yz (yf t i)) := Ze _ (by omega) (ht.sumK hmem)
 unfold WA y2i y6y
 simp only [hi0, hi, if_true, e1, Option.bind_some]
 generalize yf t i = n at *
 cases YB n
 ·rfl
 ·have key : vG (fun x10 => some x10) (fun x11 => some true) (i, 0, q, t, n) = some (!Yq (yaX q i) n 0) := by
   unfold vG
   refine (zW (step := Je _ _) (fun k => (i, k, q, t, n)) (yaX q i) (some false) (some true) z7 n (by omega) ?_ ?_).trans ?_
   ·intro again k h0 h1
    have hw : Go.IntKind.wrap .i64 (k + 1) = k + 1 := w64 (by omega) (by omega)
    have hsk : List.length (yp n k) ≤ 1048576 := hs _ (yX z7 n k h0 h1)
    unfold Je yaX
    have hx : n.getD k.toNat z7 = yp n k := rfl
    rw [hx]
    simp only [Bool.cond_eq_ite, decide_eq_true_eq, h1, if_true, yer _ _ i k q t n h0 h1 hi0 hq1 hq2 hsk, hw]
   ·intro again k hk
    unfold Je
    simp only [Bool.cond_eq_ite, decide_eq_true_eq, if_neg hk]
   ·cases Yq (yaX q i) n 0 <;> rfl
  simp only [key, e2, Option.bind_some, Bool.not_true, cond_false, gt_iff_lt]
  by_cases h0 : 0 < i
  ·simp only [h0, decide_true, cond_true, Bool.true_and]
   cases (((yz n).length : Int) == 0) <;> rfl
  ·simp only [h0, decide_false, cond_false, Bool.false_and]
   rfl
theorem yes {R : Type} (k0 : (Int × Bool × List ya × Int × Int × List yc × List y0) → Option R) (k1 : (Int × List ya × Int × Int × List yc × List y0) → Option R) (i k m : Int) (q : List Int) (t : List y0) (n : List ya) (s : List y7) (hi0 : 0 ≤ i) (hi : i < (q.length : Int)) (hq : q.length ≤ 1048576) (hs : s.length ≤ 1048576) :
  kZ k0 k1 (i, n, m, k, s, (s.length : Int), 0, q, t) = if Yq (yhn q i) s 0 = true then k0 (i, false, n, m, k, q, t) else k1 (i, n, m, k, q, t) := by
 unfold kZ
 refine zW (step := j6 k0 k1) (fun j => (i, n, m, k, s, (s.length : Int), j, q, t)) (yhn q i) _ _ yF s (by omega) ?_ ?_
 ·intro again j h0 h1
  have hw : Go.IntKind.wrap .i64 (j + 1) = j + 1 := w64 (by omega) (by omega)
  have hwi : Go.IntKind.wrap .i64 (i + 1) = i + 1 := w64 (by omega) (by omega)
  unfold j6 yhn Zt J7
  obtain ⟨⟨x1, x2, x3, x4, x5⟩, hx⟩ : ∃ x, y6 s j = x := ⟨_, rfl⟩
  have hx' : s.getD j.toNat yF = (x1, x2, x3, x4, x5) := hx
  have e1 : q.getD i.toNat 0 = zu q i := rfl
  have e2 : q.getD (i + 1).toNat 0 = zu q (i + 1) := rfl
  rw [hx', e1, e2]
  have hi1 : 0 ≤ i + 1 := by omega
  simp only [Bool.cond_eq_ite, decide_eq_true_eq, h0, h1, hi0, hi, hi1, if_true, hw, hwi, hx, Option.bind_some]
  by_cases h2 : Go.IntKind.wrap .i64 (Go.IntKind.wrap .i64 ((64 : Int) * x1) + x2) < zu q i
  ·simp [h2]
  ·by_cases h3 : i + 1 < (q.length : Int)
   ·simp [h2, h3]
   ·simp [h2, h3]
 ·intro again j hj
  unfold j6
  simp only [Bool.cond_eq_ite, decide_eq_true_eq, if_neg hj]
theorem y3O (q : List Int) (t : List y0) (i : Int) (ht : TOk t) (hi0 : 0 ≤ i) (hi : i < (t.length : Int)) (hq : q.length = t.length) : Jx (q, t, i) = some (!Yq (yaX q i) (yf t i) 0) := by
 have hmem : yf t i ∈ t := yX yg t i hi0 hi
 obtain ⟨hn, hs⟩ := ht.node hmem
 have hlen := ht.len
 have hq1 : i < (q.length : Int) := by omega
 have hq2 : q.length ≤ 1048576 := by omega
 unfold Jx qr
 simp only [hi0, hi, if_true]
 generalize yf t i = n at *
 refine (zW (step := j7 _ _) (fun k => (i, n, (n.length : Int), k, q, t)) (yaX q i) (some false) (some true) z7 n (by omega) ?_ ?_).trans ?_
 ·intro again k h0 h1
  have hw : Go.IntKind.wrap .i64 (k + 1) = k + 1 := w64 (by omega) (by omega)
  have hsk : List.length (yp n k) ≤ 1048576 := hs _ (yX z7 n k h0 h1)
  unfold j7 yaX
  have hx : n.getD k.toNat z7 = yp n k := rfl
  rw [hx]
  simp only [Bool.cond_eq_ite, decide_eq_true_eq, h0, h1, if_true, yes _ _ i k (n.length : Int) q t n _ hi0 hq1 hq2 hsk, hw]
 ·intro again k hk
  unfold j7
  simp only [Bool.cond_eq_ite, decide_eq_true_eq, if_neg hk]
 ·cases Yq (yaX q i) n 0 <;> rfl
def yet (q : List Int) (i : Int) : Bool := decide (0 < i) && decide (q.getD (i - 1).toNat 0 ≥ q.getD i.toNat 0)
def KX (q : List Int) (i : Int) (n : y0) : Bool := yet q i || !y2i q i n
def y4W (s : Int) (n : y0) : Int := Go.IntKind.wrap .i64 (s + ((yz n).length : Int))
def z8 (q : List Int) (t : List y0) : Bool :=
 inR (t.length : Int) 1 20 && (decide (q.length = t.length) && ((q.getD 0 0 == 0) && (!Yq (KX q) t 0 && decide (((yb t).length : Int) ≤ 60))))
theorem ygs : ∀ (t : List y0) (s : List y7), (s.length : Int) + kr Qu t ≤ 1048576 → t.foldl y4W (s.length : Int) = ((t.foldl kt s).length : Int)
 | [], _, _ => rfl
 | n :: t, s, h => by
  rw [Yj] at h
  have h1 := KD n
  have h2 := y2e n
  have h3 := W3 KC t
  have h4 : (kt s n).length = s.length + (yz n).length := List.length_append
  rw [List.foldl_cons, List.foldl_cons, show y4W (s.length : Int) n = ((kt s n).length : Int) by
   unfold y4W
   rw [h4, w64 (by omega) (by omega)]
   omega]
  exact ygs t (kt s n) (by rw [h4]; omega)
theorem VT (q : List Int) (t : List y0) (ht : TOk t) : Yt (q, t) = some (z8 q t) := by
 have hlen := ht.len
 unfold Yt z8
 simp only [ZK, Option.bind_some]
 cases h1 : inR (t.length : Int) 1 20
 ·rfl
 by_cases hq : q.length = t.length
 ·have hq' : ((q.length : Int) != (t.length : Int)) = false := by simp [hq]
  have hpos : 0 < (q.length : Int) := by
   have := (zt.1 h1).1
   omega
  have hd : decide (q.length = t.length) = true := by simp [hq]
  simp only [hq', hd, Bool.not_true, cond_false, cond_true, Option.bind_some, Bool.true_and]
  rw [if_pos (Int.le_refl _), if_pos (by omega)]
  have e0 : zu q 0 = q.getD 0 0 := rfl
  rw [e0]
  try simp only [Option.bind_some]
  by_cases hz : q.getD 0 0 = 0
  ·have hz1 : (q.getD 0 0 != 0) = false := by rw [hz]; rfl
   have hz2 : (q.getD 0 0 == 0) = true := by rw [hz]; rfl
   rw [hz1, hz2]
   simp only [cond_false, Bool.true_and]
   unfold QL
   refine (zW (step := Jf _ _) (fun i => (i, q, t)) (KX q) (some false) (some (decide (((yb t).length : Int) ≤ 60))) yg t (by omega) ?_ ?_).trans ?_
   ·intro again i h0 h1
    have hw : Go.IntKind.wrap .i64 (i + 1) = i + 1 := w64 (by omega) (by omega)
    have hm : Go.IntKind.wrap .i64 (i - 1) = i - 1 := w64 (by omega) (by omega)
    have e := y5N q t i ht h0 h1 hq
    unfold Jf KX yet
    have hx : t.getD i.toNat yg = yf t i := rfl
    have e1 : q.getD i.toNat 0 = zu q i := rfl
    have e2 : q.getD (i - 1).toNat 0 = zu q (i - 1) := rfl
    rw [hx, e1, e2]
    simp only [Bool.cond_eq_ite, decide_eq_true_eq, h0, h1, if_true, hw, hm, e, gt_iff_lt]
    by_cases h5 : 0 < i
    ·rw [if_pos h5, if_pos (by omega), if_pos (by omega), if_pos (by omega)]
     simp only [h5, decide_true, Option.bind_some, Bool.true_and]
     cases decide (zu q (i - 1) ≥ zu q i) <;> cases y2i q i (yf t i) <;> rfl
    ·rw [if_neg h5]
     simp only [h5, decide_false, Option.bind_some, Bool.false_and]
     cases y2i q i (yf t i) <;> rfl
   ·intro again i hi
    have e : yP (q, t) = some (yb t) := YJ q t (by omega) ht.nodes ht.sum
    unfold Jf
    simp only [Bool.cond_eq_ite, decide_eq_true_eq, if_neg hi, e, Option.bind_some]
   ·cases Yq (KX q) t 0 <;> rfl
  ·have hz1 : (q.getD 0 0 != 0) = true := by simpa using hz
   have hz2 : (q.getD 0 0 == 0) = false := by simpa using hz
   rw [hz1, hz2]
   rfl
 ·have hq' : ((q.length : Int) != (t.length : Int)) = true := by
   simp only [bne_iff_ne, ne_eq]
   omega
  have hd : decide (q.length = t.length) = false := by simp [hq]
  simp only [hq', hd, Bool.not_true, cond_false, cond_true, Option.bind_some, Bool.false_and, Bool.and_false]
theorem VU (q : List Int) (t : List y0) (ht : TOk t) : Yu (q, t) = some (z8 q t) := by
 have hlen := ht.len
 unfold Yu z8
 simp only [jd, Option.bind_some]
 cases h1 : inR (t.length : Int) 1 20
 ·rfl
 by_cases hq : q.length = t.length
 ·have hq' : ((q.length : Int) != (t.length : Int)) = false := by simp [hq]
  have hpos : 0 < (q.length : Int) := by
   have := (zt.1 h1).1
   omega
  have hd : decide (q.length = t.length) = true := by simp [hq]
  simp only [hq', hd, Bool.not_true, cond_false, cond_true, Option.bind_some, Bool.true_and]
  rw [if_pos (Int.le_refl _), if_pos (by omega)]
  have e0 : zu q 0 = q.getD 0 0 := rfl
  rw [e0]
  try simp only [Option.bind_some]
  by_cases hz : q.getD 0 0 = 0
  ·have hz1 : (q.getD 0 0 != 0) = false := by rw [hz]; rfl
   have hz2 : (q.getD 0 0 == 0) = true := by rw [hz]; rfl
   rw [hz1, hz2]
   simp only [cond_false, Bool.true_and]
   unfold y06
   refine (y48 (step := Jy _ _) (fun (i s : Int) => (s, t, (t.length : Int), i, q, t)) (KX q) y4W (some false) (fun s => some (decide (s ≤ 60))) yg t (by omega) ?_ ?_ 0).trans ?_
   ·intro again i s h0 h1
    have hmem : yf t i ∈ t := yX yg t i h0 h1
    obtain ⟨hn, hss⟩ := ht.node hmem
    have hw : Go.IntKind.wrap .i64 (i + 1) = i + 1 := w64 (by omega) (by omega)
    have hm : Go.IntKind.wrap .i64 (i - 1) = i - 1 := w64 (by omega) (by omega)
    have e3 := VS (yf t i) (by omega) (fun s hh => by have := hss s hh; omega)
    have e4 := y3O q t i ht h0 h1 hq
    have e5 : yS (yf t i) = some (yz (yf t i)) := jP _ (by omega) (ht.sumK hmem)
    unfold Jy KX yet y2i y6y y4W
    have hx : t.getD i.toNat yg = yf t i := rfl
    have e1 : q.getD i.toNat 0 = zu q i := rfl
    have e2 : q.getD (i - 1).toNat 0 = zu q (i - 1) := rfl
    rw [hx, e1, e2]
    simp only [Bool.cond_eq_ite, decide_eq_true_eq, h0, h1, if_true, hw, hm, e3, e4, e5, gt_iff_lt, Option.bind_some]
    by_cases h5 : 0 < i
    ·rw [if_pos h5, if_pos (by omega), if_pos (by omega), if_pos (by omega)]
     simp only [h5, decide_true, Option.bind_some, Bool.true_and, if_true]
     cases decide (zu q (i - 1) ≥ zu q i) <;> cases YB (yf t i) <;> cases Yq (yaX q i) (yf t i) 0 <;> cases (((yz (yf t i)).length : Int) == 0) <;> rfl
    ·rw [if_neg h5]
     simp only [h5, decide_false, Option.bind_some, Bool.false_and, if_false]
     cases YB (yf t i) <;> cases Yq (yaX q i) (yf t i) 0 <;> rfl
   ·intro again i s hi
    unfold Jy
    simp only [Bool.cond_eq_ite, decide_eq_true_eq, if_neg hi]
   ·have := ygs t [] (by have := ht.sum; simpa using this)
    simp only [List.length_nil] at this
    rw [show ((0 : Nat) : Int) = 0 from rfl] at this
    rw [this]
    unfold yb
    cases Yq (KX q) t 0 <;> rfl
  ·have hz1 : (q.getD 0 0 != 0) = true := by simpa using hz
   have hz2 : (q.getD 0 0 == 0) = false := by simpa using hz
   rw [hz1, hz2]
   rfl
 ·have hq' : ((q.length : Int) != (t.length : Int)) = true := by
   simp only [bne_iff_ne, ne_eq]
   omega
  have hd : decide (q.length = t.length) = false := by simp [hq]
  simp only [hq', hd, Bool.not_true, cond_false, cond_true, Option.bind_some, Bool.false_and, Bool.and_false]
end Go.Proofs.YtjllpipmaejeoaaGreat.Pl
namespace Go.Proofs.YtjllpipmaejeoaaGreat.Pl
open Go.Proofs.YtjllpipmaejeoaaGreat.R Go.Proofs.YtjllpipmaejeoaaGreat.XW
def isW (n : Int) : Bool := inR n 0 65535
theorem qy (x : Int) : zy x = some (isW x) := by unfold zy; rw [ZK]; rfl
theorem ygt (x : Int) : kb x = some (isW x) := by unfold kb; rw [jd]; rfl
def y8F (c : Int) : Bool := inR c 97 122 || inR c 48 57
def qR (l : List UInt8) : Bool := l.all fun c => y8F (c.toNat : Int)
def jQ (s : ByteArray) : Bool := qR s.data.toList && inR s.size 1 6
theorem yda (c : UInt8) : Go.IntKind.wrap .i64 (c.toNat : Int) = c.toNat := by
 have := c.toNat_lt
 exact w64 (by omega) (by omega)
theorem yiB (s : ByteArray) (i : Nat) (h : i < s.size) : ByteArray.get s i h = s.data.toList[i]'(by rw [Array.length_toList]; exact h) := by
 rw [Array.getElem_toList]
 rfl
theorem y9V (s : ByteArray) (i : Nat) (h : i < s.size) : s.data.toList.drop i = ByteArray.get s i h :: s.data.toList.drop (i + 1) := by
 rw [yiB, ← List.drop_eq_getElem_cons]
theorem wL (s : ByteArray) (hs : s.size ≤ maxLen) : Ys s = some (jQ s) := by
 have hm : (s.size : Int) ≤ 9223372036854775807 := by simp only [maxLen] at hs; omega
 unfold Ys QJ
 rw [Zy (fun t : ByteArray × Int => t.1.size - t.2.toNat) (fun t => t.1 = s ∧ 0 ≤ t.2 ∧ t.2 ≤ s.size) (fun t => if qR (t.1.data.toList.drop t.2.toNat) then some (inR s.size 1 6) else some false) ?_ (s, 0) ⟨rfl, by simp, by simp⟩ (by simp only [maxLen] at hs; simp; omega)]
 ·unfold jQ
  cases h : qR s.data.toList <;> simp [h]
 ·rintro again ⟨s', i⟩ ⟨rfl, h0, h1⟩ hag
  simp only at h0 h1 hs hm ⊢
  unfold vy
  simp only [Bool.cond_eq_ite, decide_eq_true_eq]
  by_cases hi : i < (s'.size : Int)
  ·have hn : i.toNat < s'.size := by omega
   rw [if_pos hi, if_pos h0, dif_pos hn]
   simp only [ZK, Option.bind_some, if_pos h0, dif_pos hn, yda]
   rw [y9V s' i.toNat hn]
   have hw : Go.IntKind.wrap .i64 (i + 1) = i + 1 := w64 (by omega) (by omega)
   have e1 : (i + 1).toNat = i.toNat + 1 := by omega
   have hag' := hag (s', i + 1) ⟨rfl, by simp only; omega, by simp only; omega⟩ (by simp only; omega)
   simp only [qR, List.all_cons, y8F] at hag' ⊢
   rw [hw, hag', e1]
   obtain ⟨c, hc⟩ : ∃ c, ByteArray.get s' i.toNat hn = c := ⟨_, rfl⟩
   simp only [hc]
   cases inR (c.toNat : Int) 97 122 <;> cases inR (c.toNat : Int) 48 57 <;> simp
  ·rw [if_neg hi, List.drop_of_length_le (by rw [Array.length_toList]; show s'.size ≤ _; omega)]
   simp [qR, ZK]
theorem y5O (s : ByteArray) (hs : s.size ≤ maxLen) : kc s = some (jQ s) := by
 have hm : (s.size : Int) ≤ 9223372036854775807 := by simp only [maxLen] at hs; omega
 unfold kc y09
 rw [Zy (fun t : ByteArray × Int => t.1.size - t.2.toNat) (fun t => t.1 = s ∧ 0 ≤ t.2 ∧ t.2 ≤ s.size) (fun t => if qR (t.1.data.toList.drop t.2.toNat) then some (inR s.size 1 6) else some false) ?_ (s, 0) ⟨rfl, by simp, by simp⟩ (by simp only [maxLen] at hs; simp; omega)]
 ·unfold jQ
  cases h : qR s.data.toList <;> simp [h]
 ·rintro again ⟨s', i⟩ ⟨rfl, h0, h1⟩ hag
  simp only at h0 h1 hs hm ⊢
  unfold V7
  simp only [Bool.cond_eq_ite, decide_eq_true_eq]
  by_cases hi : i < (s'.size : Int)
  ·have hn : i.toNat < s'.size := by omega
   rw [if_pos hi, if_pos h0, dif_pos hn]
   simp only [jd, Option.bind_some, if_pos h0, dif_pos hn, yda]
   rw [y9V s' i.toNat hn]
   have hw : Go.IntKind.wrap .i64 (i + 1) = i + 1 := w64 (by omega) (by omega)
   have e1 : (i + 1).toNat = i.toNat + 1 := by omega
   have hag' := hag (s', i + 1) ⟨rfl, by simp only; omega, by simp only; omega⟩ (by simp only; omega)
   simp only [qR, List.all_cons, y8F] at hag' ⊢
   rw [hw, hag', e1]
   obtain ⟨c, hc⟩ : ∃ c, ByteArray.get s' i.toNat hn = c := ⟨_, rfl⟩
   simp only [hc]
   cases inR (c.toNat : Int) 97 122 <;> cases inR (c.toNat : Int) 48 57 <;> simp
  ·rw [if_neg hi, List.drop_of_length_le (by rw [Array.length_toList]; show s'.size ≤ _; omega)]
   simp [qR, jd]
end Go.Proofs.YtjllpipmaejeoaaGreat.Pl
namespace Go.Proofs.YtjllpipmaejeoaaGreat.Pl
open Go.Proofs.YtjllpipmaejeoaaGreat.R Go.Proofs.YtjllpipmaejeoaaGreat.XW
def yc7 (l : List y9) (i : Int) : List y9 := List.drop (Int.toNat (0 : Int)) (List.take (Int.toNat i) l)
def y2U (l : List y9) (i : Int) (a : y9) : Bool := !inR a.1 1 60 || ((decide (0 < i) && decide ((l.getD (i - 1).toNat yy).1 ≥ a.1)) || (a.2 != 0 && decide (yR (yc7 l i) a.2 < 0)))
def YK (l : List y9) : Bool := !Yq (y2U l) l 0 && decide ((l.length : Int) ≤ 16)
theorem ydb (l : List y9) (i : Int) : (yc7 l i).length ≤ l.length := by
 unfold yc7
 simp only [List.length_drop, List.length_take]
 omega
theorem Ko (l : List y9) (hl : l.length ≤ 1048576) : Zi l = some (YK l) := by
 unfold Zi QM YK
 refine (zW (step := Jg _ _) (fun i => (l, i)) (y2U l) (some false) (some (decide ((l.length : Int) ≤ 16))) yy l (by omega) ?_ ?_).trans ?_
 ·intro again i h0 h1
  have hw : Go.IntKind.wrap .i64 (i + 1) = i + 1 := w64 (by omega) (by omega)
  have hm : Go.IntKind.wrap .i64 (i - 1) = i - 1 := w64 (by omega) (by omega)
  unfold Jg y2U
  obtain ⟨⟨x1, x2⟩, hx⟩ : ∃ x, yA l i = x := ⟨_, rfl⟩
  have hx' : l.getD i.toNat yy = (x1, x2) := hx
  have hy : l.getD (i - 1).toNat yy = yA l (i - 1) := rfl
  have e : zQ (List.drop (Int.toNat (0 : Int)) (List.take (Int.toNat i) l), x2) = some (yR (yc7 l i) x2) := Zz (yc7 l i) x2 (by have := ydb l i; omega)
  rw [hx', hy]
  have h2 : i ≤ (l.length : Int) := by omega
  simp only [Bool.cond_eq_ite, decide_eq_true_eq, h0, h1, h2, if_true, hw, hm, hx, ZK, e, Option.bind_some, Int.le_refl, gt_iff_lt]
  cases inR x1 1 60
  ·rfl
  ·by_cases h5 : 0 < i
   ·have h3 : 0 ≤ i - 1 := by omega
    have h4 : i - 1 < (l.length : Int) := by omega
    simp only [h5, h3, h4, if_true, decide_true]
    cases decide ((yA l (i - 1)).1 ≥ x1) <;> cases (x2 != 0) <;> cases decide (yR (yc7 l i) x2 < 0) <;> rfl
   ·simp only [h5, if_false, decide_false]
    cases (x2 != 0) <;> cases decide (yR (yc7 l i) x2 < 0) <;> rfl
 ·intro again i hi
  unfold Jg
  simp only [Bool.cond_eq_ite, decide_eq_true_eq, if_neg hi]
 ·cases Yq (y2U l) l 0 <;> rfl
theorem y1k (l : List y9) (hl : l.length ≤ 1048576) : w6 l = some (YK l) := by
 unfold w6 y07 YK
 refine (zW (step := Jz _ _) (fun i => (l, l, (l.length : Int), i)) (y2U l) (some false) (some (decide ((l.length : Int) ≤ 16))) yy l (by omega) ?_ ?_).trans ?_
 ·intro again i h0 h1
  have hw : Go.IntKind.wrap .i64 (i + 1) = i + 1 := w64 (by omega) (by omega)
  have hm : Go.IntKind.wrap .i64 (i - 1) = i - 1 := w64 (by omega) (by omega)
  unfold Jz y2U
  obtain ⟨⟨x1, x2⟩, hx⟩ : ∃ x, yA l i = x := ⟨_, rfl⟩
  have hx' : l.getD i.toNat yy = (x1, x2) := hx
  have hy : l.getD (i - 1).toNat yy = yA l (i - 1) := rfl
  have e : YY (List.drop (Int.toNat (0 : Int)) (List.take (Int.toNat i) l), x2) = some (yR (yc7 l i) x2) := ku (yc7 l i) x2 (by have := ydb l i; omega)
  rw [hx', hy]
  have h2 : i ≤ (l.length : Int) := by omega
  simp only [Bool.cond_eq_ite, decide_eq_true_eq, h0, h1, h2, if_true, hw, hm, hx, jd, e, Option.bind_some, Int.le_refl, gt_iff_lt]
  cases inR x1 1 60
  ·rfl
  ·by_cases h5 : 0 < i
   ·have h3 : 0 ≤ i - 1 := by omega
    have h4 : i - 1 < (l.length : Int) := by omega
    simp only [h5, h3, h4, if_true, decide_true]
    cases decide ((yA l (i - 1)).1 ≥ x1) <;> cases (x2 != 0) <;> cases decide (yR (yc7 l i) x2 < 0) <;> rfl
   ·simp only [h5, if_false, decide_false]
    cases (x2 != 0) <;> cases decide (yR (yc7 l i) x2 < 0) <;> rfl
 ·intro again i hi
  unfold Jz
  simp only [Bool.cond_eq_ite, decide_eq_true_eq, if_neg hi]
 ·cases Yq (y2U l) l 0 <;> rfl
def qz (id : Int) (s : List Int) (a : y9) : List Int := if (a.2 == id && id != 0) = true then s ++ [a.1] else s
def yQ (l : List y9) (id : Int) : List Int := l.foldl (qz id) []
theorem y6z (id : Int) (s : List Int) (a : y9) : (qz id s a).length ≤ s.length + 1 := by
 unfold qz
 split <;> simp
theorem Kp (l : List y9) (id : Int) (hl : l.length ≤ 1048576) : jo (l, id) = some (yQ l id) := by
 unfold jo QN yQ
 refine zY (step := Jh _) (fun (i : Int) (s : List Int) => (l, id, i, s)) (fun s => some s) yy (qz id) l (by omega) (fun i s => s.length ≤ i) ?_ ?_ [] (by simp)
 ·intro again i s h0 h1 hI
  have hw : Go.IntKind.wrap .i64 (i + 1) = i + 1 := w64 (by omega) (by omega)
  have hs := y6z id s (l.getD i.toNat yy)
  refine ⟨?_, by omega⟩
  have c1 : (s.length + 1) * 8 < 140737488355328 := by omega
  clear hs
  unfold Jh qz
  obtain ⟨⟨x1, x2⟩, hx⟩ : ∃ x, yA l i = x := ⟨_, rfl⟩
  have hx' : l.getD i.toNat yy = (x1, x2) := hx
  rw [hx']
  simp only [Bool.cond_eq_ite, decide_eq_true_eq, h0, h1, if_true, hw, hx, List.length_cons, List.length_nil, Nat.zero_add, c1]
  cases (x2 == id) <;> cases (id != 0) <;> rfl
 ·intro again i s hi
  unfold Jh
  simp only [Bool.cond_eq_ite, decide_eq_true_eq, if_neg hi]
theorem ygu (l : List y9) : yQ l 0 = [] := by
 have : ∀ (l : List y9) (s : List Int), l.foldl (qz 0) s = s := by
  intro l
  induction l with
  | nil => intro s; rfl
  | cons a l ih =>
   intro s
   rw [List.foldl_cons, ih]
   unfold qz
   simp
 exact this l []
theorem J0 (l : List y9) (id : Int) (hl : l.length ≤ 1048576) : Yv (l, id) = some (yQ l id) := by
 unfold Yv
 by_cases hid : id = 0
 ·subst hid
  rw [ygu]
  rfl
 ·have hid1 : (id == 0) = false := by simpa using hid
  have hid2 : (id != 0) = true := by simpa using hid
  simp only [hid1, cond_false]
  unfold y08 yQ
  refine zY (step := JA _) (fun (i : Int) (s : List Int) => (id, l, (l.length : Int), i, s)) (fun s => some s) yy (qz id) l (by omega) (fun i s => s.length ≤ i) ?_ ?_ [] (by simp)
  ·intro again i s h0 h1 hI
   have hw : Go.IntKind.wrap .i64 (i + 1) = i + 1 := w64 (by omega) (by omega)
   have hs := y6z id s (l.getD i.toNat yy)
   refine ⟨?_, by omega⟩
   have c1 : (s.length + 1) * 8 < 140737488355328 := by omega
   clear hs
   unfold JA qz
   obtain ⟨⟨x1, x2⟩, hx⟩ : ∃ x, yA l i = x := ⟨_, rfl⟩
   have hx' : l.getD i.toNat yy = (x1, x2) := hx
   rw [hx']
   simp only [Bool.cond_eq_ite, decide_eq_true_eq, h0, h1, if_true, hw, hx, List.length_cons, List.length_nil, Nat.zero_add, c1, hid2]
   cases (x2 == id) <;> rfl
  ·intro again i s hi
   unfold JA
   simp only [Bool.cond_eq_ite, decide_eq_true_eq, if_neg hi]
def y5P (_ : Int) (a : y8) : Bool := !inR a.1 0 999 || (!isW a.2.2 || (!a.2.1 && a.2.2 != 0))
def ze (l : List y8) : Bool := !Yq y5P l 0 && ((l.length : Int) == 24)
theorem JH (l : List y8) (hl : l.length ≤ 1048576) : ZF l = some (ze l) := by
 unfold ZF Qc ze
 refine (zW (step := jD _ _) (fun i => (l, i)) y5P (some false) (some ((l.length : Int) == 24)) z0 l (by omega) ?_ ?_).trans ?_
 ·intro again i h0 h1
  have hw : Go.IntKind.wrap .i64 (i + 1) = i + 1 := w64 (by omega) (by omega)
  unfold jD y5P
  obtain ⟨⟨x1, x2, x3⟩, hx⟩ : ∃ x, yG l i = x := ⟨_, rfl⟩
  have hx' : l.getD i.toNat z0 = (x1, x2, x3) := hx
  rw [hx']
  simp only [Bool.cond_eq_ite, decide_eq_true_eq, h0, h1, if_true, hw, hx, ZK, qy, Option.bind_some]
  cases inR x1 0 999 <;> cases isW x3 <;> cases x2 <;> cases (x3 != 0) <;> rfl
 ·intro again i hi
  unfold jD
  simp only [Bool.cond_eq_ite, decide_eq_true_eq, if_neg hi]
 ·cases Yq y5P l 0 <;> rfl
theorem y0j (l : List y8) (hl : l.length ≤ 1048576) : jY l = some (ze l) := by
 unfold jY Qi ze
 refine (zW (step := jL _ _) (fun i => (l, l, (l.length : Int), i)) y5P (some false) (some ((l.length : Int) == 24)) z0 l (by omega) ?_ ?_).trans ?_
 ·intro again i h0 h1
  have hw : Go.IntKind.wrap .i64 (i + 1) = i + 1 := w64 (by omega) (by omega)
  unfold jL y5P
  obtain ⟨⟨x1, x2, x3⟩, hx⟩ : ∃ x, yG l i = x := ⟨_, rfl⟩
  have hx' : l.getD i.toNat z0 = (x1, x2, x3) := hx
  rw [hx']
  simp only [Bool.cond_eq_ite, decide_eq_true_eq, h0, h1, if_true, hw, hx, jd, ygt, Option.bind_some]
  cases inR x1 0 999 <;> cases isW x3 <;> cases x2 <;> cases (x3 != 0) <;> rfl
 ·intro again i hi
  unfold jL
  simp only [Bool.cond_eq_ite, decide_eq_true_eq, if_neg hi]
 ·cases Yq y5P l 0 <;> rfl
def qS (s : Int) (a : y8) : Int := if a.2.1 = true then Go.IntKind.wrap .i64 (s + 1) else s
def Qv (l : List y8) : Int := l.foldl qS 0
theorem y9W (l : List y8) (hl : l.length ≤ 1048576) : jG l = some (Qv l) := by
 unfold jG Vx Qv
 refine zY (step := Zj _) (fun (i s : Int) => (l, s, i)) (fun s => some s) z0 qS l (by omega) (fun _ _ => True) ?_ ?_ 0 trivial
 ·intro again i s h0 h1 _
  have hw : Go.IntKind.wrap .i64 (i + 1) = i + 1 := w64 (by omega) (by omega)
  refine ⟨?_, trivial⟩
  unfold Zj qS
  obtain ⟨⟨x1, x2, x3⟩, hx⟩ : ∃ x, yG l i = x := ⟨_, rfl⟩
  have hx' : l.getD i.toNat z0 = (x1, x2, x3) := hx
  rw [hx']
  simp only [Bool.cond_eq_ite, decide_eq_true_eq, h0, h1, if_true, hw, hx]
  cases x2 <;> rfl
 ·intro again i s hi
  unfold Zj
  simp only [Bool.cond_eq_ite, decide_eq_true_eq, if_neg hi]
theorem y3r (l : List y8) (hl : l.length ≤ 1048576) : YH l = some (Qv l) := by
 unfold YH VC Qv
 refine zY (step := Zr _) (fun (i s : Int) => (s, l, (l.length : Int), i)) (fun s => some s) z0 qS l (by omega) (fun _ _ => True) ?_ ?_ 0 trivial
 ·intro again i s h0 h1 _
  have hw : Go.IntKind.wrap .i64 (i + 1) = i + 1 := w64 (by omega) (by omega)
  refine ⟨?_, trivial⟩
  unfold Zr qS
  obtain ⟨⟨x1, x2, x3⟩, hx⟩ : ∃ x, yG l i = x := ⟨_, rfl⟩
  have hx' : l.getD i.toNat z0 = (x1, x2, x3) := hx
  rw [hx']
  simp only [Bool.cond_eq_ite, decide_eq_true_eq, h0, h1, if_true, hw, hx]
  cases x2 <;> rfl
 ·intro again i s hi
  unfold Zr
  simp only [Bool.cond_eq_ite, decide_eq_true_eq, if_neg hi]
def Z9 (l : List y8) (i gen : Int) : Int × Bool :=
 if inR i 0 ((l.length : Int) - 1) && ((l.getD i.toNat z0).2.1 && ((l.getD i.toNat z0).1 == gen)) then ((l.getD i.toNat z0).2.2, true) else (0, false)
theorem y1l (l : List y8) (i gen : Int) (hl : l.length ≤ 1048576) : JR (l, i, gen) = some (Z9 l i gen) := by
 unfold JR Z9
 have hm : Go.IntKind.wrap .i64 ((l.length : Int) - 1) = (l.length : Int) - 1 := w64 (by omega) (by omega)
 obtain ⟨⟨x1, x2, x3⟩, hx⟩ : ∃ x, yG l i = x := ⟨_, rfl⟩
 have hx' : l.getD i.toNat z0 = (x1, x2, x3) := hx
 rw [hx']
 simp only [hm, hx, ZK, Option.bind_some]
 by_cases hr : inR i 0 ((l.length : Int) - 1) = true
 ·obtain ⟨h0, h1⟩ := zt.1 hr
  rw [hr, if_pos h0, if_pos (by omega), if_pos h0, if_pos (by omega), if_pos h0, if_pos (by omega)]
  by_cases hg : x1 = gen
  ·have g1 : (x1 != gen) = false := by simp [hg]
   have g2 : (x1 == gen) = true := by simp [hg]
   rw [g1, g2]
   cases x2 <;> rfl
  ·have g1 : (x1 != gen) = true := by simpa using hg
   have g2 : (x1 == gen) = false := by simpa using hg
   rw [g1, g2]
   cases x2 <;> rfl
 ·have : inR i 0 ((l.length : Int) - 1) = false := by simpa using hr
  rw [this]
  rfl
theorem y1m (l : List y8) (i gen : Int) (hl : l.length ≤ 1048576) : w5 (l, i, gen) = some (Z9 l i gen) := by
 rw [← y1l l i gen hl]
 unfold w5 JR
 simp only [jd, ZK]
end Go.Proofs.YtjllpipmaejeoaaGreat.Pl
namespace Go.Proofs.YtjllpipmaejeoaaGreat.Pl
open Go.Proofs.YtjllpipmaejeoaaGreat.R Go.Proofs.YtjllpipmaejeoaaGreat.XW
theorem y8G {A : Type} (p : A → Bool) : ∀ (l : List A) (i j : Int), 0 ≤ i → decide (0 ≤ zF p l i) = Yq (fun _ a => p a) l j
 | [], i, j, _ => rfl
 | a :: l, i, j, h => by
  rw [zF, Yq, ← y8G p l (i + 1) (j + 1) (by omega)]
  cases p a with
  | true => simp [h]
  | false => rfl
theorem y9X {A : Type} (da : A) (l : List A) (i j : Int) (h0 : 0 ≤ j) (h : j < i) : (l.take i.toNat).getD j.toNat da = l.getD j.toNat da := by
 rw [List.getD_eq_getElem?_getD, List.getD_eq_getElem?_getD, List.getElem?_take, if_pos (by omega)]
theorem ydc {A : Type} (l : List A) (i : Int) (h0 : 0 ≤ i) (h : i ≤ (l.length : Int)) : ((l.take i.toNat).length : Int) = i := by
 rw [List.length_take]
 omega
def JI (age : Int) (_ : Int) (u : ye) : Bool := u.2.1 == age
def yeu (vs : List ye) (l : List y9) (i : Int) (v : ye) : Bool :=
 !jQ v.1 || (!inR v.2.2.1 1 12 || (decide (yR l v.2.1 < 0) || (decide (((yQ l v.2.1).length : Int) > 0) || ((decide (0 < i) && !Go.Op.bytesLess (ByteArray.toList (vs.getD (i - 1).toNat Yi).1) (ByteArray.toList v.1)) || Yq (JI v.2.1) (vs.take i.toNat) 0))))
def je (vs : List ye) (l : List y9) : Bool := !Yq (yeu vs l) vs 0 && decide ((vs.length : Int) ≤ 6)
theorem y4X {R : Type} (k0 : (Bool × Int × List yc × List y0 × List y9 × List y8 × List ye × Int) → Option R) (k1 : (Int × List yc × List y0 × List y9 × List y8 × List ye × Int) → Option R) (i : Int) (q : List Int) (t : List y0) (l : List y9) (cs : List y8) (vs : List ye) (z : Int) (v1 : ByteArray) (v2 v3 : Int) (v4 : Bool) (h0 : 0 ≤ i) (h1 : i ≤ (vs.length : Int)) (hv : vs.length ≤ 1048576) :
  KQ k0 k1 (i, 0, q, t, l, cs, vs, z, v1, v2, v3, v4) = if Yq (JI v2) (vs.take i.toNat) 0 = true then k0 (false, i, q, t, l, cs, vs, z) else k1 (i, q, t, l, cs, vs, z) := by
 unfold KQ
 have hlen := ydc vs i h0 h1
 refine zW (step := jE k0 k1) (fun k => (i, k, q, t, l, cs, vs, z, v1, v2, v3, v4)) (JI v2) _ _ Yi (vs.take i.toNat) (by omega) ?_ ?_
 ·intro again k hk0 hk1
  rw [hlen] at hk1
  have hw : Go.IntKind.wrap .i64 (k + 1) = k + 1 := w64 (by omega) (by omega)
  have hk2 : k < (vs.length : Int) := by omega
  unfold jE JI
  rw [y9X Yi vs i k hk0 hk1]
  have hx : vs.getD k.toNat Yi = yi vs k := rfl
  rw [hx]
  simp only [Bool.cond_eq_ite, decide_eq_true_eq, hk0, hk1, hk2, if_true, hw]
 ·intro again k hk
  rw [hlen] at hk
  unfold jE
  simp only [Bool.cond_eq_ite, decide_eq_true_eq, if_neg hk]
theorem y9Y (q : List Int) (t : List y0) (l : List y9) (cs : List y8) (vs : List ye) (z : Int) (hl : l.length ≤ 1048576) (hv : vs.length ≤ 1048576) (hvn : ∀ v ∈ vs, ByteArray.size v.1 ≤ maxLen) : wv (q, t, l, cs, vs, z) = some (je vs l) := by
 unfold wv Qd je
 refine (zW (step := jF _ _) (fun i => (i, q, t, l, cs, vs, z)) (yeu vs l) (some false) (some (decide ((vs.length : Int) ≤ 6))) Yi vs (by omega) ?_ ?_).trans ?_
 ·intro again i h0 h1
  have hw : Go.IntKind.wrap .i64 (i + 1) = i + 1 := w64 (by omega) (by omega)
  have hm : Go.IntKind.wrap .i64 (i - 1) = i - 1 := w64 (by omega) (by omega)
  have hmem := hvn _ (yX Yi vs i h0 h1)
  unfold jF yeu
  obtain ⟨⟨x1, x2, x3, x4⟩, hx⟩ : ∃ x, yi vs i = x := ⟨_, rfl⟩
  have hx' : vs.getD i.toNat Yi = (x1, x2, x3, x4) := hx
  have hy : vs.getD (i - 1).toNat Yi = yi vs (i - 1) := rfl
  rw [hx'] at hmem
  rw [hx', hy]
  have e1 := wL x1 hmem
  have e2 := Zz l x2 (by omega)
  have e3 := Kp l x2 hl
  simp only [Bool.cond_eq_ite, decide_eq_true_eq, h0, h1, if_true, hw, hm, hx, ZK, e1, e2, e3, y4X _ _ i q t l cs vs z x1 x2 x3 x4 h0 (by omega) hv, Option.bind_some, gt_iff_lt]
  cases jQ x1
  ·rfl
  by_cases h5 : 0 < i
  ·have h3 : 0 ≤ i - 1 := by omega
   have h4 : i - 1 < (vs.length : Int) := by omega
   simp only [h5, h3, h4, if_true, decide_true]
   by_cases ha : yR l x2 < 0 <;> by_cases hk : (0 : Int) < ((yQ l x2).length : Int) <;> simp only [ha, hk, if_true, if_false, decide_true, decide_false] <;> cases Go.Op.bytesLess (ByteArray.toList (yi vs (i - 1)).1) (ByteArray.toList x1) <;> cases inR x3 1 12 <;> cases Yq (JI x2) (vs.take i.toNat) 0 <;> rfl
  ·simp only [h5, if_false, decide_false]
   by_cases ha : yR l x2 < 0 <;> by_cases hk : (0 : Int) < ((yQ l x2).length : Int) <;> simp only [ha, hk, if_true, if_false, decide_true, decide_false] <;> cases inR x3 1 12 <;> cases Yq (JI x2) (vs.take i.toNat) 0 <;> rfl
 ·intro again i hi
  unfold jF
  simp only [Bool.cond_eq_ite, decide_eq_true_eq, if_neg hi]
 ·cases Yq (yeu vs l) vs 0 <;> rfl
theorem yc8 (l : List ye) (v1 : ByteArray) (v2 v3 : Int) (v4 : Bool) (hl : l.length ≤ 1048576) : yH (l, v1, v2, v3, v4) = some (Yq (JI v2) l 0, v1, v2, v3, v4) := by
 have key : z9 (l, v1, v2, v3, v4) = some (zF (fun u : ye => u.2.1 == v2) l 0, v1, v2, v3, v4) := by
  unfold z9 YC
  refine (YA (step := yW _ _) (fun i => (l, (l.length : Int), i, v1, v2, v3, v4)) (fun u : ye => u.2.1 == v2) (fun x => some (x, v1, v2, v3, v4)) (some (-1, v1, v2, v3, v4)) Yi l (by omega) ?_ ?_).trans ?_
  ·intro again i h0 h1
   have hw : Go.IntKind.wrap .i64 (i + 1) = i + 1 := w64 (by omega) (by omega)
   unfold yW ke
   simp only [Bool.cond_eq_ite, decide_eq_true_eq, h0, h1, if_true, hw, Option.bind_some]
   rfl
  ·intro again i hi
   unfold yW
   simp only [Bool.cond_eq_ite, decide_eq_true_eq, if_neg hi]
  ·rcases Yc (fun u : ye => u.2.1 == v2) Yi l 0 (Int.le_refl _) with h | ⟨h1, h2, h3⟩
   ·rw [h]
    rfl
   ·rw [if_neg (by omega)]
 unfold yH
 rw [key]
 simp only [Option.bind_some, ge_iff_le]
 rw [y8G _ l 0 0 (Int.le_refl _)]
 rfl
theorem y9Z (q : List Int) (t : List y0) (l : List y9) (cs : List y8) (vs : List ye) (z : Int) (hl : l.length ≤ 1048576) (hv : vs.length ≤ 1048576) (hvn : ∀ v ∈ vs, ByteArray.size v.1 ≤ maxLen) : kf (q, t, l, cs, vs, z) = some (je vs l) := by
 unfold kf y0a je
 refine (zW (step := JB _ _) (fun i => (vs, (vs.length : Int), i, q, t, l, cs, vs, z)) (yeu vs l) (some false) (some (decide ((vs.length : Int) ≤ 6))) Yi vs (by omega) ?_ ?_).trans ?_
 ·intro again i h0 h1
  have hw : Go.IntKind.wrap .i64 (i + 1) = i + 1 := w64 (by omega) (by omega)
  have hm : Go.IntKind.wrap .i64 (i - 1) = i - 1 := w64 (by omega) (by omega)
  have hmem := hvn _ (yX Yi vs i h0 h1)
  unfold JB yeu
  obtain ⟨⟨x1, x2, x3, x4⟩, hx⟩ : ∃ x, yi vs i = x := ⟨_, rfl⟩
  have hx' : vs.getD i.toNat Yi = (x1, x2, x3, x4) := hx
  have hy : vs.getD (i - 1).toNat Yi = yi vs (i - 1) := rfl
  rw [hx'] at hmem
  rw [hx', hy]
  have e1 := y5O x1 hmem
  have e2 := ku l x2 (by omega)
  have e3 := J0 l x2 hl
  have e4 : yH (List.drop (Int.toNat (0 : Int)) (List.take (Int.toNat i) vs), x1, x2, x3, x4) = some (Yq (JI x2) (vs.take i.toNat) 0, x1, x2, x3, x4) := yc8 (vs.take i.toNat) x1 x2 x3 x4 (by simp only [List.length_take]; omega)
  have h2 : i ≤ (vs.length : Int) := by omega
  simp only [Bool.cond_eq_ite, decide_eq_true_eq, h0, h1, h2, if_true, hw, hm, hx, jd, e1, e2, e3, e4, Option.bind_some, gt_iff_lt, Int.le_refl]
  cases jQ x1
  ·rfl
  by_cases h5 : 0 < i
  ·have h3 : 0 ≤ i - 1 := by omega
   have h4 : i - 1 < (vs.length : Int) := by omega
   simp only [h5, h3, h4, if_true, decide_true]
   by_cases ha : yR l x2 < 0 <;> by_cases hk : (0 : Int) < ((yQ l x2).length : Int) <;> simp only [ha, hk, if_true, if_false, decide_true, decide_false] <;> cases Go.Op.bytesLess (ByteArray.toList (yi vs (i - 1)).1) (ByteArray.toList x1) <;> cases inR x3 1 12 <;> cases Yq (JI x2) (vs.take i.toNat) 0 <;> rfl
  ·simp only [h5, if_false, decide_false]
   by_cases ha : yR l x2 < 0 <;> by_cases hk : (0 : Int) < ((yQ l x2).length : Int) <;> simp only [ha, hk, if_true, if_false, decide_true, decide_false] <;> cases inR x3 1 12 <;> cases Yq (JI x2) (vs.take i.toNat) 0 <;> rfl
 ·intro again i hi
  unfold JB
  simp only [Bool.cond_eq_ite, decide_eq_true_eq, if_neg hi]
 ·cases Yq (yeu vs l) vs 0 <;> rfl
end Go.Proofs.YtjllpipmaejeoaaGreat.Pl
namespace Go.Proofs.YtjllpipmaejeoaaGreat.Pl
open Go.Proofs.YtjllpipmaejeoaaGreat.R Go.Proofs.YtjllpipmaejeoaaGreat.XW
def zm (c : Int) (_ : Int) (u : y7) : Bool := (u.2.2.1 == 1) && (u.2.2.2.1 == c)
def yc9 (ks : List y7) (l : List y9) (cs : List y8) (i : Int) (a : y7) : Bool :=
 decide (yR l a.2.1 < 0) || ((a.2.2.1 == 1) && (!(Z9 cs a.2.2.2.1 a.2.2.2.2).2 || Yq (zm a.2.2.2.1) (ks.take i.toNat) 0))
def y0k (n : Int) (a : y7) : Int := if (a.2.2.1 == 1) = true then Go.IntKind.wrap .i64 (n + 1) else n
def ZA (ks : List y7) (l : List y9) (cs : List y8) : Bool := !Yq (yc9 ks l cs) ks 0 && (ks.foldl y0k 0 == Qv cs)
theorem y4Y {R : Type} (k0 : (Bool × Int × Int × List yc × List y0 × List y9 × List y8 × List ye × Int × List y7) → Option R) (k1 : (Int × Int × List yc × List y0 × List y9 × List y8 × List ye × Int × List y7) → Option R) (n i : Int) (q : List Int) (t : List y0) (l : List y9) (cs : List y8) (vs : List ye) (z : Int) (ks : List y7) (h0 : 0 ≤ i) (h1 : i < (ks.length : Int)) (hk : ks.length ≤ 1048576) :
  kO k0 k1 (n, i, 0, q, t, l, cs, vs, z, ks) = if Yq (zm (y6 ks i).2.2.2.1) (ks.take i.toNat) 0 = true then k0 (false, n, i, q, t, l, cs, vs, z, ks) else k1 (n, i, q, t, l, cs, vs, z, ks) := by
 unfold kO
 have hlen := ydc ks i h0 (by omega)
 refine zW (step := ZS k0 k1) (fun k => (n, i, k, q, t, l, cs, vs, z, ks)) (zm (y6 ks i).2.2.2.1) _ _ yF (ks.take i.toNat) (by omega) ?_ ?_
 ·intro again k hk0 hk1
  rw [hlen] at hk1
  have hw : Go.IntKind.wrap .i64 (k + 1) = k + 1 := w64 (by omega) (by omega)
  have hk2 : k < (ks.length : Int) := by omega
  unfold ZS zm
  rw [y9X yF ks i k hk0 hk1]
  have hx : ks.getD k.toNat yF = y6 ks k := rfl
  rw [hx]
  simp only [Bool.cond_eq_ite, decide_eq_true_eq, hk0, hk1, hk2, h0, h1, if_true, hw]
  cases ((y6 ks k).2.2.1 == 1) <;> cases ((y6 ks k).2.2.2.1 == (y6 ks i).2.2.2.1) <;> rfl
 ·intro again k hk
  rw [hlen] at hk
  unfold ZS
  simp only [Bool.cond_eq_ite, decide_eq_true_eq, if_neg hk]
theorem y4Z (q : List Int) (t : List y0) (l : List y9) (cs : List y8) (vs : List ye) (z : Int) (ht : TOk t) (hl : l.length ≤ 1048576) (hc : cs.length ≤ 1048576) : ww (q, t, l, cs, vs, z) = some (ZA (yb t) l cs) := by
 unfold ww Qe ZA
 have hk := ht.keys
 have e : yP (q, t) = some (yb t) := YJ q t (by have := ht.len; omega) ht.nodes ht.sum
 simp only [e, Option.bind_some]
 generalize yb t = ks at hk
 refine (y48 (step := jH _ _) (fun (i n : Int) => (n, i, q, t, l, cs, vs, z, ks)) (yc9 ks l cs) y0k (some false) (fun n => some (n == Qv cs)) yF ks (by omega) ?_ ?_ 0).trans ?_
 ·intro again i n h0 h1
  have hw : Go.IntKind.wrap .i64 (i + 1) = i + 1 := w64 (by omega) (by omega)
  unfold jH yc9 y0k
  have hin := fun (k0 : (Bool × Int × Int × List yc × List y0 × List y9 × List y8 × List ye × Int × List y7) → Option Bool) k1 m => y4Y k0 k1 m i q t l cs vs z ks h0 h1 hk
  obtain ⟨⟨x1, x2, x3, x4, x5⟩, hx⟩ : ∃ x, y6 ks i = x := ⟨_, rfl⟩
  have hx' : ks.getD i.toNat yF = (x1, x2, x3, x4, x5) := hx
  rw [hx']
  rw [hx] at hin
  have e1 := Zz l x2 (by omega)
  have e2 := y1l cs x4 x5 hc
  simp only [Bool.cond_eq_ite, decide_eq_true_eq, h0, h1, if_true, hw, hx, e1, e2, hin, Option.bind_some]
  by_cases ha : yR l x2 < 0
  ·simp only [ha, if_true, decide_true, Bool.true_or]
  ·simp only [ha, if_false, decide_false, Bool.false_or]
   by_cases h3 : x3 = 1
   ·have g1 : (x3 == 1) = true := by simp [h3]
    have g2 : (x3 != 1) = false := by simp [h3]
    rw [g1, g2]
    cases (Z9 cs x4 x5).2 <;> cases Yq (zm x4) (ks.take i.toNat) 0 <;> rfl
   ·have g1 : (x3 == 1) = false := by simpa using h3
    have g2 : (x3 != 1) = true := by simpa using h3
    rw [g1, g2]
    rfl
 ·intro again i n hi
  unfold jH
  simp only [Bool.cond_eq_ite, decide_eq_true_eq, if_neg hi, y9W cs hc, Option.bind_some]
 ·cases Yq (yc9 ks l cs) ks 0 <;> rfl
theorem ydd (c : Int) : ∀ (l : List y7) (i : Int) (j : Nat), j < l.length → Yq (zm c) (l.take (j + 1)) i = (Yq (zm c) (l.take j) i || zm c 0 (l.getD j yF))
 | a :: l, i, 0, _ => by simp [Yq, zm]
 | a :: l, i, j + 1, h => by
  have := ydd c l (i + 1) j (by simpa using h)
  rw [List.take_succ_cons, Yq, this, List.take_succ_cons, Yq, List.getD_cons_succ, Bool.or_assoc]
def yev (s : Int × List Bool) (a : y7) : Int × List Bool := (y0k s.1 a, if (a.2.2.1 == 1) = true then s.2.set a.2.2.2.1.toNat true else s.2)
theorem ykd : ∀ (l : List y7) (s : Int × List Bool), (l.foldl yev s).1 = l.foldl y0k s.1
 | [], _ => rfl
 | a :: l, s => ykd l (yev s a)
theorem y50 (q : List Int) (t : List y0) (l : List y9) (cs : List y8) (vs : List ye) (z : Int) (ht : TOk t) (hl : l.length ≤ 1048576) (hc : cs.length = 24) : wF (q, t, l, cs, vs, z) = some (ZA (yb t) l cs) := by
 unfold wF Qj ZA
 have hk := ht.keys
 have e : yT (q, t) = some (yb t) := Zf q t (by have := ht.len; omega) ht.nodes ht.sum
 rw [if_pos (by omega), if_pos (Int.le_refl _), if_pos (by omega)]
 simp only [e, Option.bind_some]
 generalize yb t = ks at hk
 refine (y4U (step := jM _ _) (fun (i : Int) (s : Int × List Bool) => (s.1, (ks.length : Int), i, q, t, l, cs, vs, z, s.2, ks)) (fun i s a => if yc9 ks l cs i a = true then .error (some false) else .ok (yev s a)) (fun s => some (s.1 == Qv cs)) yF ks (by omega) (fun j s => s.2.length = 24 ∧ ∀ c : Nat, c < 24 → s.2.getD c false = Yq (zm (c : Int)) (ks.take j) 0) ?_ ?_ 0 (Int.le_refl _) (0, List.replicate (Int.toNat 24) yfD) ⟨rfl, fun c hc => ?_⟩).trans ?_
 ·rintro again i ⟨n, tk⟩ h0 h1 ⟨hI1, hI2⟩
  simp only at hI1 hI2
  have hw : Go.IntKind.wrap .i64 (i + 1) = i + 1 := w64 (by omega) (by omega)
  obtain ⟨⟨x1, x2, x3, x4, x5⟩, hx⟩ : ∃ x, y6 ks i = x := ⟨_, rfl⟩
  have hx' : ks.getD i.toNat yF = (x1, x2, x3, x4, x5) := hx
  have hgd : ks.getD i.toNat yF = ks.getD i.toNat yF := rfl
  have e1 := ku l x2 (by omega)
  have e2 := y1m cs x4 x5 (by omega)
  have hcell : (Z9 cs x4 x5).2 = true → 0 ≤ x4 ∧ x4 < 24 := fun h => by
   unfold Z9 at h
   split at h
   ·rename_i hh
    simp only [Bool.and_eq_true] at hh
    have := zt.1 hh.1
    omega
   ·cases h
  rw [hx']
  refine ⟨?_, fun s' hs' => ?_⟩
  ·unfold jM yc9 yev y0k
   simp only [Bool.cond_eq_ite, decide_eq_true_eq, h0, h1, if_true, hw, hx, e1, e2, Option.bind_some]
   by_cases ha : yR l x2 < 0
   ·simp only [ha, if_true, decide_true, Bool.true_or]
   ·simp only [ha, if_false, decide_false, Bool.false_or]
    by_cases h3 : x3 = 1
    ·have g1 : (x3 == 1) = true := by simp [h3]
     have g2 : (x3 != 1) = false := by simp [h3]
     rw [g1, g2]
     cases hok : (Z9 cs x4 x5).2 with
     | false => rfl
     | true =>
      obtain ⟨b0, b1⟩ := hcell hok
      have b2 : x4 < (tk.length : Int) := by omega
      have hrd : yfE tk x4 = Yq (zm x4) (ks.take i.toNat) 0 := by
       have := hI2 x4.toNat (by omega)
       rw [show ((x4.toNat : Nat) : Int) = x4 by omega] at this
       exact this
      simp only [b0, b2, if_true, hrd]
      cases Yq (zm x4) (ks.take i.toNat) 0 <;> rfl
    ·have g1 : (x3 == 1) = false := by simpa using h3
     have g2 : (x3 != 1) = true := by simpa using h3
     rw [g1, g2]
     rfl
  ·by_cases hb : yc9 ks l cs i (x1, x2, x3, x4, x5) = true
   ·rw [if_pos hb] at hs'
    cases hs'
   ·rw [if_neg hb] at hs'
    injection hs' with hs'
    subst hs'
    have hsucc : ∀ c : Int, Yq (zm c) (ks.take (i.toNat + 1)) 0 = (Yq (zm c) (ks.take i.toNat) 0 || zm c 0 (x1, x2, x3, x4, x5)) := fun c => by
     rw [ydd c ks 0 i.toNat (by omega), hx']
    unfold yev
    simp only
    by_cases h3 : x3 = 1
    ·have g1 : (x3 == 1) = true := by simp [h3]
     simp only [g1, if_true]
     have hok : (Z9 cs x4 x5).2 = true := by
      unfold yc9 at hb
      simp only [g1] at hb
      cases hh : (Z9 cs x4 x5).2 with
      | true => rfl
      | false =>
       rw [hh] at hb
       simp at hb
     obtain ⟨b0, b1⟩ := hcell hok
     refine ⟨by simpa using hI1, fun c hc => ?_⟩
     rw [hsucc, ← hI2 c hc]
     unfold zm
     simp only [g1, Bool.true_and]
     rw [List.getD_eq_getElem?_getD, List.getD_eq_getElem?_getD]
     by_cases hcx : c = x4.toNat
     ·rw [← hcx, List.getElem?_set_self (by omega)]
      have : (x4 == (c : Int)) = true := by
       simp only [beq_iff_eq]
       omega
      rw [this]
      simp
     ·rw [List.getElem?_set_ne (fun h => hcx h.symm)]
      have : (x4 == (c : Int)) = false := by
       simp only [beq_eq_false_iff_ne, ne_eq]
       omega
      rw [this]
      simp
    ·have g1 : (x3 == 1) = false := by simpa using h3
     simp only [g1, Bool.false_eq_true, if_false]
     refine ⟨hI1, fun c hc => ?_⟩
     rw [hsucc, ← hI2 c hc]
     unfold zm
     simp only [g1, Bool.false_and, Bool.or_false]
 ·rintro again i ⟨n, tk⟩ hi
  unfold jM
  simp only [Bool.cond_eq_ite, decide_eq_true_eq, if_neg hi, y3r cs (by omega), Option.bind_some]
  rw [Bool.beq_comm]
 ·show (List.replicate 24 false).getD c false = _
  rw [List.getD_eq_getElem?_getD, List.getElem?_replicate]
  simp [Yq, hc]
 ·have := y47 (yc9 ks l cs) yev (some false) (fun s : Int × List Bool => some (s.1 == Qv cs)) ks 0 (0, List.replicate (Int.toNat 24) yfD)
  rw [show (0 : Int).toNat = 0 from rfl, List.drop_zero, this, ykd]
  cases Yq (yc9 ks l cs) ks 0 <;> rfl
def VV (z : Int) (_ : Int) (a : y9) : Bool := decide (a.1 ≥ z)
def yo (q : List Int) (t : List y0) (l : List y9) (cs : List y8) (vs : List ye) (z : Int) : Bool :=
 z8 q t && (YK l && (ze cs && (inR z 1 61 && (!Yq (VV z) l 0 && (je vs l && ZA (yb t) l cs)))))
theorem y1n (q : List Int) (t : List y0) (l : List y9) (cs : List y8) (vs : List ye) (z : Int) (ht : TOk t) (hl : l.length ≤ 1048576) (hc : cs.length ≤ 1048576) (hv : vs.length ≤ 1048576) (hvn : ∀ v ∈ vs, ByteArray.size v.1 ≤ maxLen) : yL (q, t, l, cs, vs, z) = some (yo q t l cs vs z) := by
 unfold yL QO yo
 refine (zW (step := Ji _ _) (fun i => (i, q, t, l, cs, vs, z)) (VV z) (some false) (some (z8 q t && (YK l && (ze cs && (inR z 1 61 && (je vs l && ZA (yb t) l cs)))))) yy l (by omega) ?_ ?_).trans ?_
 ·intro again i h0 h1
  have hw : Go.IntKind.wrap .i64 (i + 1) = i + 1 := w64 (by omega) (by omega)
  unfold Ji VV
  have hx : l.getD i.toNat yy = yA l i := rfl
  rw [hx]
  simp only [Bool.cond_eq_ite, decide_eq_true_eq, h0, h1, if_true, hw]
 ·intro again i hi
  unfold Ji
  simp only [Bool.cond_eq_ite, decide_eq_true_eq, if_neg hi, VT q t ht, Ko l hl, JH cs hc, ZK, y9Y q t l cs vs z hl hv hvn, y4Z q t l cs vs z ht hl hc, Option.bind_some]
  cases z8 q t <;> cases YK l <;> cases ze cs <;> cases inR z 1 61 <;> cases je vs l <;> rfl
 ·cases Yq (VV z) l 0 <;> cases z8 q t <;> cases YK l <;> cases ze cs <;> cases inR z 1 61 <;> rfl
theorem y1o (q : List Int) (t : List y0) (l : List y9) (cs : List y8) (vs : List ye) (z : Int) (ht : TOk t) (hl : l.length ≤ 1048576) (hc : cs.length ≤ 1048576) (hv : vs.length ≤ 1048576) (hvn : ∀ v ∈ vs, ByteArray.size v.1 ≤ maxLen) : Yw (q, t, l, cs, vs, z) = some (yo q t l cs vs z) := by
 unfold Yw yo
 simp only [VU q t ht, y1k l hl, y0j cs hc, jd, Option.bind_some]
 cases z8 q t
 ·rfl
 cases YK l
 ·rfl
 cases hcc : ze cs
 ·rfl
 cases inR z 1 61
 ·rfl
 have hc24 : cs.length = 24 := by
  unfold ze at hcc
  simp only [Bool.and_eq_true, beq_iff_eq] at hcc
  omega
 simp only [Bool.not_true, cond_false, Option.bind_some, Bool.true_and]
 unfold y0b
 refine (zW (step := JC _ _) (fun i => (l, (l.length : Int), i, q, t, l, cs, vs, z)) (VV z) (some false) (some (je vs l && ZA (yb t) l cs)) yy l (by omega) ?_ ?_).trans ?_
 ·intro again i h0 h1
  have hw : Go.IntKind.wrap .i64 (i + 1) = i + 1 := w64 (by omega) (by omega)
  unfold JC VV
  have hx : l.getD i.toNat yy = yA l i := rfl
  rw [hx]
  simp only [Bool.cond_eq_ite, decide_eq_true_eq, h0, h1, if_true, hw]
 ·intro again i hi
  unfold JC
  simp only [Bool.cond_eq_ite, decide_eq_true_eq, if_neg hi, y9Z q t l cs vs z hl hv hvn, y50 q t l cs vs z ht hl hc24, Option.bind_some]
  cases je vs l <;> rfl
 ·cases Yq (VV z) l 0 <;> rfl
end Go.Proofs.YtjllpipmaejeoaaGreat.Pl
namespace Go.Proofs.YtjllpipmaejeoaaGreat.Pl
open Go.Proofs.YtjllpipmaejeoaaGreat.R Go.Proofs.YtjllpipmaejeoaaGreat.XW
theorem J2 {A : Type} (p : Int → A → Bool) : ∀ (l : List A) (i : Int), Yq p l i = false → ∀ a ∈ l, ∃ j, p j a = false
 | [], _, _, a, h => by simp at h
 | b :: l, i, h, a, ha => by
  simp only [Yq, Bool.or_eq_false_iff] at h
  rcases List.mem_cons.1 ha with rfl | ha
  ·exact ⟨i, h.1⟩
  ·exact J2 p l (i + 1) h.2 a ha
theorem y49 {s : List y7} (h : Wl s = true) : s.length ≤ 60 ∧ ∀ k ∈ s, zO k = true := by
 unfold Wl at h
 simp only [Bool.and_eq_true, Bool.not_eq_true', decide_eq_true_eq] at h
 refine ⟨by omega, fun k hk => ?_⟩
 obtain ⟨j, hj⟩ := J2 _ s 0 h.1 k hk
 simpa using hj
theorem y2j {n : List ya} (h : YB n = true) : n.length ≤ 3 ∧ ∀ s ∈ n, Wl s = true := by
 unfold YB at h
 simp only [Bool.and_eq_true, Bool.not_eq_true', decide_eq_true_eq] at h
 refine ⟨by omega, fun s hs => ?_⟩
 obtain ⟨j, hj⟩ := J2 _ n 0 h.1 s hs
 unfold y2h at hj
 simp only [Bool.or_eq_false_iff, Bool.not_eq_false'] at hj
 exact hj.1
theorem jR {q : List Int} {t : List y0} (h : z8 q t = true) : q.length = t.length ∧ 1 ≤ t.length ∧ t.length ≤ 20 ∧ ∀ n ∈ t, YB n = true := by
 unfold z8 at h
 simp only [Bool.and_eq_true, Bool.not_eq_true', decide_eq_true_eq, zt] at h
 obtain ⟨h1, h2, _, h3, _⟩ := h
 refine ⟨h2, by omega, by omega, fun n hn => ?_⟩
 obtain ⟨j, hj⟩ := J2 _ t 0 h3 n hn
 unfold KX at hj
 simp only [Bool.or_eq_false_iff, Bool.not_eq_false'] at hj
 have h4 := hj.2
 unfold y2i at h4
 simp only [Bool.and_eq_true] at h4
 exact h4.1
end Go.Proofs.YtjllpipmaejeoaaGreat.Pl
namespace Go.Proofs.YtjllpipmaejeoaaGreat.Pl
open Go.Proofs.YtjllpipmaejeoaaGreat.R Go.Proofs.YtjllpipmaejeoaaGreat.XW
theorem KE {a b : y7} : W4 a b = true ↔ a.1 < b.1 ∨ a.1 = b.1 ∧ a.2.1 < b.2.1 := by
 unfold W4
 by_cases h1 : a.1 < b.1
 ·simp [h1]
 ·by_cases h2 : a.1 = b.1 <;> simp [h1, h2]
theorem zw {a b : y7} : Y1 a b = true ↔ a.1 = b.1 ∧ a.2.1 = b.2.1 := by simp [Y1]
theorem y1E {a b c : y7} (h1 : W4 a b = true) (h2 : W4 b c = true) : W4 a c = true := by
 rw [KE] at *
 omega
def srt (l : List y7) : Prop := l.Pairwise fun a b => W4 a b = true
def y92 : List y7 → y7 → List y7
 | [], k => [k]
 | c :: r, k => if W4 c k = true then c :: y92 r k else k :: (c :: r).filter fun x => !Y1 x k
theorem yde (k : y7) : ∀ (l o : List y7), l.foldl (J1 k) (true, o) = (true, o ++ l.filter fun x => !Y1 x k)
 | [], o => by simp
 | c :: l, o => by
  rw [List.foldl_cons, List.filter_cons]
  have e : J1 k (true, o) c = (true, if Y1 c k then o else o ++ [c]) := by simp [J1]
  rw [e, yde k l]
  cases Y1 c k <;> simp
def yn6 (k : y7) (r : Bool × List y7) : List y7 := if r.1 then r.2 else r.2 ++ [k]
theorem ya0 (k : y7) : ∀ (l o : List y7), yn6 k (l.foldl (J1 k) (false, o)) = o ++ y92 l k
 | [], o => by simp [y92, yn6]
 | c :: l, o => by
  rw [List.foldl_cons, y92]
  cases hl : W4 c k with
  | true =>
   have hs : Y1 c k = false := by
    cases hs : Y1 c k with
    | false => rfl
    | true =>
     rw [KE] at hl
     rw [zw] at hs
     omega
   have e : J1 k (false, o) c = (false, o ++ [c]) := by simp [J1, hl, hs]
   rw [e, ya0 k l (o ++ [c])]
   simp
  | false =>
   have e : J1 k (false, o) c = (true, if Y1 c k then o ++ [k] else o ++ [k] ++ [c]) := by simp [J1, hl]
   rw [e, yde]
   simp only [yn6, if_true, List.filter_cons, Bool.false_eq_true, if_false]
   cases Y1 c k <;> simp
theorem Kb (l : List y7) (k : y7) : Y0 l k = y92 l k := by
 exact (ya0 k l []).trans (List.nil_append _)
theorem y8H {k : y7} : ∀ {l : List y7} {x : y7}, x ∈ y92 l k → x = k ∨ x ∈ l
 | [], x, h => by simpa [y92] using h
 | c :: r, x, h => by
  rw [y92] at h
  split at h
  ·rcases List.mem_cons.1 h with rfl | h
   ·exact .inr (by simp)
   ·rcases y8H h with h | h
    ·exact .inl h
    ·exact .inr (by simp [h])
  ·rcases List.mem_cons.1 h with rfl | h
   ·exact .inl rfl
   ·exact .inr (List.mem_filter.1 h).1
theorem ydf (k : y7) : ∀ (l : List y7), srt l → srt (y92 l k)
 | [], _ => by simp [srt, y92]
 | c :: r, h => by
  obtain ⟨h1, h2⟩ := List.pairwise_cons.1 h
  rw [y92]
  split
  ·rename_i hl
   refine List.pairwise_cons.2 ⟨fun y hy => ?_, ydf k r h2⟩
   rcases y8H hy with rfl | hy
   ·exact hl
   ·exact h1 y hy
  ·rename_i hl
   refine List.pairwise_cons.2 ⟨fun y hy => ?_, List.Pairwise.filter _ h⟩
   obtain ⟨hy, hs⟩ := List.mem_filter.1 hy
   have hs' : ¬ (y.1 = k.1 ∧ y.2.1 = k.2.1) := fun e => by
    rw [zw.2 e] at hs
    cases hs
   rw [KE] at hl ⊢
   rcases List.mem_cons.1 hy with rfl | hy
   ·omega
   ·have := KE.1 (h1 y hy)
    omega
theorem w8 {l : List y7} (k : y7) (h : srt l) : srt (Y0 l k) := by rw [Kb]; exact ydf k l h
theorem y0Q {l : List y7} {k x : y7} (h : x ∈ Y0 l k) : x = k ∨ x ∈ l := by rw [Kb] at h; exact y8H h
theorem qA : ∀ (b a : List y7), srt a → srt (Z8 a b)
 | [], _, h => h
 | c :: b, a, h => qA b _ (w8 c h)
theorem y6A : ∀ (b a : List y7) {x : y7}, x ∈ Z8 a b → x ∈ a ∨ x ∈ b
 | [], _, _, h => .inl h
 | c :: b, a, x, h => by
  rcases y6A b (Y0 a c) h with h | h
  ·rcases y0Q h with rfl | h
   ·exact .inr (by simp)
   ·exact .inl h
  ·exact .inr (by simp [h])
theorem ydg : ∀ (l s : List y7), l.foldl Vf s = s ++ l.filter fun c => !decide (c.2.2.1 = 0)
 | [], s => by simp
 | c :: l, s => by
  rw [List.foldl_cons, ydg l, List.filter_cons]
  unfold Vf
  by_cases h : c.2.2.1 = 0 <;> simp [h]
theorem qT (l : List y7) : W5 l = l.filter fun c => !decide (c.2.2.1 = 0) := by
 have := ydg l []
 simpa [W5] using this
theorem KF {l : List y7} (h : srt l) : srt (W5 l) := by rw [qT]; exact List.Pairwise.filter _ h
theorem y51 {l : List y7} {x : y7} (h : x ∈ W5 l) : x ∈ l := by rw [qT] at h; exact (List.mem_filter.1 h).1
theorem y52 : ∀ (n : List ya) (s : List y7), srt s → srt (n.foldl Z8 s)
 | [], _, h => h
 | c :: n, s, h => y52 n _ (qA c s h)
theorem ya1 : ∀ (n : List ya) (s : List y7) {x : y7}, x ∈ n.foldl Z8 s → x ∈ s ∨ ∃ c ∈ n, x ∈ (show List y7 from c)
 | [], _, _, h => .inl h
 | c :: n, s, x, h => by
  rcases ya1 n (Z8 s c) h with h | ⟨d, hd, hx⟩
  ·rcases y6A c s h with h | h
   ·exact .inl h
   ·exact .inr ⟨c, by simp, h⟩
  ·exact .inr ⟨d, by simp [hd], hx⟩
theorem KG (n : List ya) : srt (yz n) := KF (y52 n [] List.Pairwise.nil)
theorem y0l {n : List ya} {x : y7} (h : x ∈ yz n) : ∃ c ∈ n, x ∈ (show List y7 from c) := by
 rcases ya1 n [] (y51 h) with h | h
 ·cases h
 ·exact h
theorem kw {A : Type} {p : Int → A → Bool} (da : A) : ∀ (l : List A) (i : Int), (∀ j : Nat, j < l.length → p (i + j) (l.getD j da) = false) → Yq p l i = false
 | [], _, _ => rfl
 | a :: l, i, h => by
  rw [Yq, Bool.or_eq_false_iff]
  refine ⟨by simpa using h 0 (by simp), kw da l (i + 1) fun j hj => ?_⟩
  have := h (j + 1) (by simpa using hj)
  rw [List.getD_cons_succ] at this
  rw [show i + 1 + (j : Int) = i + ((j + 1 : Nat) : Int) by omega]
  exact this
theorem yE {A : Type} (da : A) (l : List A) (j : Nat) (h : j < l.length) : l.getD j da = l[j] := by simp [List.getD, h]
theorem ygv {l : List y7} (h : srt l) : Yq (wj l) l 0 = false := by
 refine kw yF l 0 fun j hj => ?_
 unfold wj
 cases j with
 | zero => simp
 | succ j =>
  have h2 := List.pairwise_iff_getElem.1 h j (j + 1) (by omega) hj (by omega)
  rw [show ((0 : Int) + ((j + 1 : Nat) : Int) - 1).toNat = j by omega, yE _ _ _ (by omega), yE _ _ _ hj, h2]
  simp
theorem ytN {l : List y7} (h : srt l) (hk : ∀ k ∈ l, zO k = true) (hl : l.length ≤ 60) : Wl l = true := by
 unfold Wl
 rw [ygv h, kw yF l 0 fun j hj => by
  rw [yE _ _ _ hj, hk _ (List.getElem_mem hj)]
  rfl]
 simp
 omega
def yN (l : List y7) : List ya := if l.length = 0 then [] else [l]
theorem y2V {l : List y7} (h : srt l) (hk : ∀ k ∈ l, zO k = true) (hl : l.length ≤ 8) : YB (yN l) = true := by
 unfold yN
 split
 ·rfl
 ·rename_i h0
  have h1 := ytN h hk (by omega)
  have h2 : y1j 0 l = (List.length l : Int) := by
   unfold y1j
   rw [w64 (by omega) (by omega)]
   omega
  unfold YB
  simp only [Yq, y2h, h1, Bool.not_true, Bool.false_or, Bool.or_false, List.foldl_cons, List.foldl_nil, h2, List.length_cons, List.length_nil]
  rw [show (((List.length l : Nat) : Int) == 0) = false from beq_eq_false_iff_ne.2 (by omega)]
  simp
  omega
end Go.Proofs.YtjllpipmaejeoaaGreat.Pl
namespace Go.Proofs.YtjllpipmaejeoaaGreat.Pl
open Go.Proofs.YtjllpipmaejeoaaGreat.R Go.Proofs.YtjllpipmaejeoaaGreat.XW
theorem y4a {T A R : Type} {step : (T → Option R) → T → Option R} (da : A) (l : List A) (St0 : Int → T) (St1 : Int → List A → T) (k0 : Option R) (k1 : List A → Option R) (hl : l.length ≤ 1099511627776)
  (h0 : ∀ again i, 0 ≤ i → i < ((List.length l : Nat) : Int) → step again (St0 i) = again (St1 (i + 1) [l.getD i.toNat da]))
  (h1 : ∀ again i o, 0 ≤ i → i < ((List.length l : Nat) : Int) → List.length o ≤ List.length l → step again (St1 i o) = again (St1 (i + 1) (o ++ [l.getD i.toNat da])))
  (hd0 : ∀ again i, ¬ i < ((List.length l : Nat) : Int) → step again (St0 i) = k0)
  (hd1 : ∀ again i o, ¬ i < ((List.length l : Nat) : Int) → step again (St1 i o) = k1 o) : zR step Yd (St0 0) = if l.length = 0 then k0 else k1 l := by
 have key : ∀ (m : Nat) (i : Int), 0 ≤ i → i ≤ l.length → l.length - i.toNat < m → zR step m (St1 i (l.take i.toNat)) = k1 l := by
  intro m
  induction m with
  | zero => intro i _ _ h; omega
  | succ m ih =>
   intro i i0 i1 hm
   rw [zR]
   by_cases hi : i < ((List.length l : Nat) : Int)
   ·have e1 : (i + 1).toNat = i.toNat + 1 := by omega
    have e2 : l.take i.toNat ++ [l.getD i.toNat da] = l.take (i + 1).toNat := by
     rw [e1, List.take_succ_eq_append_getElem (by omega), y8z da l i i0 hi]
    rw [h1 _ i _ i0 hi (by rw [List.length_take]; omega), e2]
    exact ih (i + 1) (by omega) (by omega) (by omega)
   ·rw [hd1 _ i _ hi, List.take_of_length_le (by omega)]
 have hF : Yd = (Yd - 1) + 1 := by
  have := y1x
  omega
 rw [hF, zR]
 by_cases h : l.length = 0
 ·rw [if_pos h, hd0 _ 0 (by omega)]
 ·rw [if_neg h, h0 _ 0 (Int.le_refl _) (by omega)]
  have e : [l.getD (0 : Int).toNat da] = l.take (0 + 1 : Int).toNat := by
   cases l with
   | nil => simp at h
   | cons a l => rfl
  rw [e]
  exact key _ _ (by omega) (by omega) (by
   have := y1x
   omega)
theorem yuA {A : Type} (a : A) (k : Nat) (h : k < 140737488355328) : List.length [a] * k < 140737488355328 := by
 simp only [List.length_cons, List.length_nil]
 omega
end Go.Proofs.YtjllpipmaejeoaaGreat.Pl
namespace Go.Proofs.YtjllpipmaejeoaaGreat.Pl
open Go.Proofs.YtjllpipmaejeoaaGreat.R Go.Proofs.YtjllpipmaejeoaaGreat.XW
def y3P (n : y0) : Prop := List.length n ≤ 1048576 ∧ ∀ b ∈ (show List ya from n), List.length b ≤ 1048576
theorem VW (n : List ya) (h : y3P n) : zo n = some n := by
 have h1 : n.length ≤ 1048576 := h.1
 have e : zo n = if n.length = 0 then some ([] : List ya) else some n := by
  unfold zo QP
  refine y4a (step := Z1 _ _) z7 n (fun i => Sum.inl (i, n)) (fun i o => Sum.inr (i, n, o)) _ (fun o => some o) (by omega) ?_ ?_ ?_ ?_
  ·intro again i i0 i1
   have hw : Go.IntKind.wrap .i64 (i + 1) = i + 1 := w64 (by omega) (by omega)
   have hr : List.length (yp n i) ≤ 1048576 := h.2 _ (yX z7 n i i0 i1)
   simp only [Z1, Bool.cond_eq_ite, decide_eq_true_eq, i0, i1, if_true, hw]
   rw [if_pos (by simp only [List.length_nil]; omega), if_pos (yuA _ _ (by decide))]
   rfl
  ·intro again i o i0 i1 i2
   have hw : Go.IntKind.wrap .i64 (i + 1) = i + 1 := w64 (by omega) (by omega)
   have hr : List.length (yp n i) ≤ 1048576 := h.2 _ (yX z7 n i i0 i1)
   simp only [Z1, Bool.cond_eq_ite, decide_eq_true_eq, i0, i1, if_true, hw]
   rw [if_pos (by simp only [List.length_nil]; omega), if_pos (by simp only [List.length_cons, List.length_nil]; omega)]
   rfl
  ·intro again i hi
   simp only [Z1, Bool.cond_eq_ite, decide_eq_true_eq, if_neg hi]
  ·intro again i o hi
   simp only [Z1, Bool.cond_eq_ite, decide_eq_true_eq, if_neg hi]
 rw [e]
 split
 ·rename_i h0
  rw [List.length_eq_zero_iff.1 h0]
 ·rfl
theorem KY (l : List y7) (h : l.length ≤ 1048576) : Y7 l = some l := by
 unfold Y7
 rw [if_pos (by simp only [List.length_nil]; omega)]
 rfl
theorem KZ (n : List ya) (h : y3P n) : zH n = some n := by
 have h1 : n.length ≤ 1048576 := h.1
 have e : zH n = if n.length = 0 then some ([] : List ya) else some n := by
  unfold zH qu
  refine y4a (step := Yo _ _) z7 n (fun i => Sum.inl (n, ((List.length n : Nat) : Int), i)) (fun i o => Sum.inr (n, ((List.length n : Nat) : Int), i, o)) _ (fun o => some o) (by omega) ?_ ?_ ?_ ?_
  ·intro again i i0 i1
   have hw : Go.IntKind.wrap .i64 (i + 1) = i + 1 := w64 (by omega) (by omega)
   have hr : List.length (yp n i) ≤ 1048576 := h.2 _ (yX z7 n i i0 i1)
   simp only [Yo, Bool.cond_eq_ite, decide_eq_true_eq, i0, i1, if_true, hw, KY _ hr, Option.bind_some]
   rw [if_pos (yuA _ _ (by decide))]
   rfl
  ·intro again i o i0 i1 i2
   have hw : Go.IntKind.wrap .i64 (i + 1) = i + 1 := w64 (by omega) (by omega)
   have hr : List.length (yp n i) ≤ 1048576 := h.2 _ (yX z7 n i i0 i1)
   simp only [Yo, Bool.cond_eq_ite, decide_eq_true_eq, i0, i1, if_true, hw, KY _ hr, Option.bind_some]
   rw [if_pos (by simp only [List.length_cons, List.length_nil]; omega)]
   rfl
  ·intro again i hi
   simp only [Yo, Bool.cond_eq_ite, decide_eq_true_eq, if_neg hi]
  ·intro again i o hi
   simp only [Yo, Bool.cond_eq_ite, decide_eq_true_eq, if_neg hi]
 rw [e]
 split
 ·rename_i h0
  rw [List.length_eq_zero_iff.1 h0]
 ·rfl
theorem VX (q : List yc) (t : List y0) (hq : q.length ≤ 1048576) (ht : t.length ≤ 1048576) (hn : ∀ n ∈ t, y3P n) : Zk (q, t) = some (q, t) := by
 have e : Zk (q, t) = if t.length = 0 then some (q, ([] : List y0)) else some (q, t) := by
  unfold Zk QQ
  simp only [List.length_nil, List.nil_append]
  rw [if_pos (by omega)]
  refine y4a (step := Z2 _ _) yg t (fun i => Sum.inl (i, q, t, q)) (fun i o => Sum.inr (i, q, t, q, o)) _ (fun o => some (q, o)) (by omega) ?_ ?_ ?_ ?_
  ·intro again i i0 i1
   have hw : Go.IntKind.wrap .i64 (i + 1) = i + 1 := w64 (by omega) (by omega)
   have hr : y3P (yf t i) := hn _ (yX yg t i i0 i1)
   simp only [Z2, Bool.cond_eq_ite, decide_eq_true_eq, i0, i1, if_true, hw, VW _ hr, Option.bind_some]
   rw [if_pos (yuA _ _ (by decide))]
   rfl
  ·intro again i o i0 i1 i2
   have hw : Go.IntKind.wrap .i64 (i + 1) = i + 1 := w64 (by omega) (by omega)
   have hr : y3P (yf t i) := hn _ (yX yg t i i0 i1)
   simp only [Z2, Bool.cond_eq_ite, decide_eq_true_eq, i0, i1, if_true, hw, VW _ hr, Option.bind_some]
   rw [if_pos (by simp only [List.length_cons, List.length_nil]; omega)]
   rfl
  ·intro again i hi
   simp only [Z2, Bool.cond_eq_ite, decide_eq_true_eq, if_neg hi]
  ·intro again i o hi
   simp only [Z2, Bool.cond_eq_ite, decide_eq_true_eq, if_neg hi]
 rw [e]
 split
 ·rename_i h0
  rw [List.length_eq_zero_iff.1 h0]
 ·rfl
theorem Qn (l : List yc) (h : l.length ≤ 1048576) : ja l = some l := by
 unfold ja
 rw [if_pos (by simp only [List.length_nil]; omega)]
 rfl
theorem Qo (q : List yc) (t : List y0) (hq : q.length ≤ 1048576) (ht : t.length ≤ 1048576) (hn : ∀ n ∈ t, y3P n) : zI (q, t) = some (q, t) := by
 have e : zI (q, t) = if t.length = 0 then some (q, ([] : List y0)) else some (q, t) := by
  unfold zI qv
  simp only [Qn q hq, Option.bind_some]
  refine y4a (step := Yp _ _) yg t (fun i => Sum.inl (t, ((List.length t : Nat) : Int), i, q)) (fun i o => Sum.inr (t, ((List.length t : Nat) : Int), i, q, o)) _ (fun o => some (q, o)) (by omega) ?_ ?_ ?_ ?_
  ·intro again i i0 i1
   have hw : Go.IntKind.wrap .i64 (i + 1) = i + 1 := w64 (by omega) (by omega)
   have hr : y3P (yf t i) := hn _ (yX yg t i i0 i1)
   simp only [Yp, Bool.cond_eq_ite, decide_eq_true_eq, i0, i1, if_true, hw, KZ _ hr, Option.bind_some]
   rw [if_pos (yuA _ _ (by decide))]
   rfl
  ·intro again i o i0 i1 i2
   have hw : Go.IntKind.wrap .i64 (i + 1) = i + 1 := w64 (by omega) (by omega)
   have hr : y3P (yf t i) := hn _ (yX yg t i i0 i1)
   simp only [Yp, Bool.cond_eq_ite, decide_eq_true_eq, i0, i1, if_true, hw, KZ _ hr, Option.bind_some]
   rw [if_pos (by simp only [List.length_cons, List.length_nil]; omega)]
   rfl
  ·intro again i hi
   simp only [Yp, Bool.cond_eq_ite, decide_eq_true_eq, if_neg hi]
  ·intro again i o hi
   simp only [Yp, Bool.cond_eq_ite, decide_eq_true_eq, if_neg hi]
 rw [e]
 split
 ·rename_i h0
  rw [List.length_eq_zero_iff.1 h0]
 ·rfl
theorem kz (q : List yc) (t : List y0) (l : List y9) (cs : List y8) (vs : List ye) (z : Int) (h : small q t l cs vs) : ym (q, t, l, cs, vs, z) = some (q, t, l, cs, vs, z) := by
 obtain ⟨h1, h2, h3, h4, h5, h6⟩ := h
 unfold ym Y5
 simp only [VX q t h1 h2 (fun n hn => qx h3 hn), Option.bind_some, List.length_nil, List.nil_append]
 rw [if_pos (by omega), if_pos (by omega)]
 simp only [Option.bind_some]
 rw [if_pos (by omega)]
theorem Qp (q : List yc) (t : List y0) (l : List y9) (cs : List y8) (vs : List ye) (z : Int) (h : small q t l cs vs) : Z7 (q, t, l, cs, vs, z) = some (q, t, l, cs, vs, z) := by
 obtain ⟨h1, h2, h3, h4, h5, h6⟩ := h
 unfold Z7 Z6 YI
 simp only [Qo q t h1 h2 (fun n hn => qx h3 hn), Option.bind_some, List.length_nil, List.nil_append]
 rw [if_pos (by omega)]
 simp only [Option.bind_some]
 rw [if_pos (by omega)]
 simp only [Option.bind_some]
 rw [if_pos (by omega)]
end Go.Proofs.YtjllpipmaejeoaaGreat.Pl
namespace Go.Proofs.YtjllpipmaejeoaaGreat.Pl
open Go.Proofs.YtjllpipmaejeoaaGreat.R Go.Proofs.YtjllpipmaejeoaaGreat.XW
def y3s (t : List y0) (l : List y9) (blk id : Int) : Bool × y7 := zB (zG (yb t) blk) ((yO l id).drop 1)
theorem yca (ks : List y7) : zB ks [] = (false, (0, 0, 0, 0, 0)) := by
 unfold zB
 induction ks with
 | nil => rfl
 | cons a ks ih =>
  rw [List.foldl_cons, show W6 [] (false, ((0 : Int), (0 : Int), (0 : Int), (0 : Int), (0 : Int))) a = (false, (0, 0, 0, 0, 0)) by
   unfold W6 yhm zF
   simp]
  exact ih
theorem y2k (q : List Int) (t : List y0) (l : List y9) (blk id : Int) (ht : TOk t) (hl : l.length ≤ 1048576) : Zc (q, t, l, blk, id) = some (ans (y3s t l blk id)) := by
 unfold Zc y3s
 have hp := y0P l id hl
 simp only [y1g l id hl, Option.bind_some]
 generalize yO l id = p at hp
 cases p with
 | nil =>
  rw [show List.drop 1 ([] : List Int) = [] from rfl, yca]
  rfl
 | cons a p =>
  have h1 : (((a :: p).length : Int) == 0) = false := by
   simp only [List.length_cons, beq_eq_false_iff_ne, ne_eq]
   omega
  have h2 : (1 : Int) ≤ ((a :: p).length : Int) := by
   simp only [List.length_cons]
   omega
  have e : jr (q, t, blk, List.drop (Int.toNat (1 : Int)) (List.take (Int.toNat ((a :: p).length : Int)) (a :: p))) = some (ans (zB (zG (yb t) blk) (List.drop 1 (a :: p)))) := by
   rw [show Int.toNat ((a :: p).length : Int) = (a :: p).length by omega, List.take_length]
   exact y3p q t blk _ ht (by simp only [List.length_drop]; omega)
  simp only [h1, cond_false, h2, Int.le_refl, if_true, e, Option.bind_some]
  rw [if_pos (by omega)]
theorem y8I (q : List Int) (t : List y0) (l : List y9) (blk id : Int) (ht : TOk t) (hl : l.length ≤ 1048576) : jN (q, t, l, blk, id) = some (ans (y3s t l blk id)) := by
 unfold jN y3s
 have hp := y0P l id hl
 simp only [y1h l id hl, Option.bind_some]
 generalize yO l id = p at hp
 have e : ju (q, t, blk, List.drop (Int.toNat (if (p.length : Int) < (1 : Int) then (p.length : Int) else (1 : Int))) (List.take (Int.toNat (p.length : Int)) p)) = some (ans (zB (zG (yb t) blk) (List.drop 1 p))) := by
  rw [show Int.toNat (p.length : Int) = p.length by omega, List.take_length]
  have : List.drop (Int.toNat (if (p.length : Int) < (1 : Int) then (p.length : Int) else (1 : Int))) p = List.drop 1 p := by
   cases p with
   | nil => rfl
   | cons a p =>
    rw [if_neg (by simp only [List.length_cons]; omega)]
    rfl
  rw [this]
  exact y1i q t blk _ ht (by simp only [List.length_drop]; omega)
 rw [if_pos (by split <;> omega), if_pos (by split <;> omega), if_pos (Int.le_refl _), e]
 rfl
def v5 (vs : List ye) (id : Int) : Bool := !Yq (JI id) vs 0
theorem y0m (q : List Int) (t : List y0) (l : List y9) (cs : List y8) (vs : List ye) (z id : Int) (hv : vs.length ≤ 1048576) : kS (q, t, l, cs, vs, z, id) = some (v5 vs id) := by
 unfold kS y2b v5
 refine (zW (step := WN _ _) (fun i => (id, i, q, t, l, cs, vs, z)) (JI id) (some false) (some true) Yi vs (by omega) ?_ ?_).trans ?_
 ·intro again i h0 h1
  have hw : Go.IntKind.wrap .i64 (i + 1) = i + 1 := w64 (by omega) (by omega)
  unfold WN JI
  have hx : vs.getD i.toNat Yi = yi vs i := rfl
  rw [hx]
  simp only [Bool.cond_eq_ite, decide_eq_true_eq, h0, h1, if_true, hw]
 ·intro again i hi
  unfold WN
  simp only [Bool.cond_eq_ite, decide_eq_true_eq, if_neg hi]
 ·cases Yq (JI id) vs 0 <;> rfl
theorem VF (q : List Int) (t : List y0) (l : List y9) (cs : List y8) (vs : List ye) (z id : Int) (hv : vs.length ≤ 1048576) : JD (q, t, l, cs, vs, z, id) = some (v5 vs id) := by
 have key : zi (vs, id) = some (zF (fun u : ye => u.2.1 == id) vs 0, id) := by
  unfold zi YZ
  refine (YA (step := za _ _) (fun i => (vs, (vs.length : Int), i, id)) (fun u : ye => u.2.1 == id) (fun x => some (x, id)) (some (-1, id)) Yi vs (by omega) ?_ ?_).trans ?_
  ·intro again i h0 h1
   have hw : Go.IntKind.wrap .i64 (i + 1) = i + 1 := w64 (by omega) (by omega)
   unfold za vi
   simp only [Bool.cond_eq_ite, decide_eq_true_eq, h0, h1, if_true, hw, Option.bind_some]
   rfl
  ·intro again i hi
   unfold za
   simp only [Bool.cond_eq_ite, decide_eq_true_eq, if_neg hi]
  ·rcases Yc (fun u : ye => u.2.1 == id) Yi vs 0 (Int.le_refl _) with h | ⟨h1, h2, h3⟩
   ·rw [h]
    rfl
   ·rw [if_neg (by omega)]
 unfold JD zq v5
 rw [key]
 simp only [Option.bind_some, ge_iff_le]
 rw [y8G _ vs 0 0 (Int.le_refl _)]
 rfl
def W7 (q : List Int) (sp : Int) : Nat → Int
 | 0 => -1
 | n + 1 => if q.getD n 0 ≤ sp then (n : Int) else W7 q sp n
def jS (blk age : Int) : Int := Go.IntKind.wrap .i64 (Go.IntKind.wrap .i64 ((64 : Int) * blk) + age)
theorem y6B (q : List Int) (sp : Int) : ∀ n, -1 ≤ W7 q sp n ∧ W7 q sp n < n
 | 0 => by simp [W7]
 | n + 1 => by
  have := y6B q sp n
  rw [W7]
  split <;> omega
theorem y0n (q : List Int) (t : List y0) (blk age : Int) (hq : q.length ≤ 1048576) : jV (q, t, blk, age) = some (W7 q (jS blk age) q.length) := by
 unfold jV Qg
 have h := Zy (step := wR (fun x2 => some x2)) (fun u : wQ => q.length - u.2.2.2.1.toNat) (fun u => ∃ n : Nat, n ≤ q.length ∧ u = (blk, age, W7 q (jS blk age) n, (n : Int), q, t)) (fun _ => some (W7 q (jS blk age) q.length)) ?_ (blk, age, -1, 0, q, t) ⟨0, by omega, rfl⟩ (by simp; omega)
 ·exact h
 ·rintro again u ⟨n, hn, rfl⟩ hag
  have hw : Go.IntKind.wrap .i64 ((n : Int) + 1) = ((n + 1 : Nat) : Int) := by rw [w64 (by omega) (by omega)]; omega
  unfold wR JP
  have h0 : 0 ≤ (n : Int) := by omega
  by_cases hlt : (n : Int) < (q.length : Int)
  ·have hx : zu q (n : Int) = q.getD n 0 := rfl
   simp only [Bool.cond_eq_ite, decide_eq_true_eq, hlt, h0, if_true, Option.bind_some, hw, hx]
   have e := hag (blk, age, W7 q (jS blk age) (n + 1), ((n + 1 : Nat) : Int), q, t) ⟨n + 1, by omega, rfl⟩ (by simp only; omega)
   rw [W7] at e
   unfold jS at e ⊢
   split
   ·rename_i hc
    rw [if_pos hc] at e
    exact e
   ·rename_i hc
    rw [if_neg hc] at e
    exact e
  ·rw [show n = q.length by omega]
   simp
theorem y0o (q : List Int) (t : List y0) (blk age : Int) (hq : q.length ≤ 1048576) : jZ (q, t, blk, age) = some (W7 q (jS blk age) q.length) := by
 unfold jZ Qk
 rw [w64 (n := (q.length : Int) - 1) (by omega) (by omega)]
 have h := Zy (step := wW (fun x2 => some x2) (fun x3 => some (-1 : Int))) (fun u : wV => (u.2.2.1 + 1).toNat) (fun u => ∃ n : Nat, n ≤ q.length ∧ u = (blk, age, (n : Int) - 1, q, t)) (fun u => some (W7 q (jS blk age) (u.2.2.1 + 1).toNat)) ?_ (blk, age, (q.length : Int) - 1, q, t) ⟨q.length, by omega, rfl⟩ (by simp; omega)
 ·rw [h]
  simp only
  rw [show ((q.length : Int) - 1 + 1).toNat = q.length by omega]
 ·rintro again u ⟨n, hn, rfl⟩ hag
  unfold wW Zt
  cases n with
  | zero => simp [W7]
  | succ n =>
   have e1 : ((n + 1 : Nat) : Int) - 1 = (n : Int) := by omega
   have hw : Go.IntKind.wrap .i64 ((n : Int) - 1) = (n : Int) - 1 := w64 (by omega) (by omega)
   have hx : zu q (n : Int) = q.getD n 0 := rfl
   have h0 : 0 ≤ (n : Int) := by omega
   have h1 : (n : Int) < (q.length : Int) := by omega
   rw [e1]
   simp only [Bool.cond_eq_ite, decide_eq_true_eq, ge_iff_le, h0, h1, if_true, Option.bind_some, hw, hx]
   have e := hag (blk, age, (n : Int) - 1, q, t) ⟨n, by omega, rfl⟩ (by simp only; omega)
   rw [e]
   simp only
   rw [show ((n : Int) - 1 + 1).toNat = n by omega, show ((n : Int) + 1).toNat = n + 1 by omega, W7]
   unfold jS
   split <;> rfl
abbrev Ans : Type := Int × Int × Int × Int × Int × Bool
def y53 : Ans := (0, 0, 0, 0, 0, false)
def atP (blk age : Int) (a : y7) : Bool := a.1 == blk && a.2.1 == age
def y0p (a : y7) : Ans := (a.1, a.2.1, a.2.2.1, a.2.2.2.1, a.2.2.2.2, true)
def Wm (l : List y7) (blk age : Int) : Ans := if zF (atP blk age) l 0 < 0 then y53 else y0p (y6 l (zF (atP blk age) l 0))
theorem y2l (l : List y7) (blk age : Int) (hl : l.length ≤ 1073741824) : Wf (l, blk, age) = some (Wm l blk age) := by
 unfold Wf y1b Wm
 refine (YA (step := wy _ _) (fun i => (l, blk, age, i, 0, 0, 0, 0, 0)) (atP blk age) (fun i => some (y0p (y6 l i))) (some y53) yF l (by omega) ?_ ?_).trans ?_
 ·intro again i h0 h1
  have hw : Go.IntKind.wrap .i64 (i + 1) = i + 1 := w64 (by omega) (by omega)
  unfold wy atP y0p
  obtain ⟨⟨x1, x2, x3, x4, x5⟩, hx⟩ : ∃ x, y6 l i = x := ⟨_, rfl⟩
  have hx' : l.getD i.toNat yF = (x1, x2, x3, x4, x5) := hx
  rw [hx']
  simp only [Bool.cond_eq_ite, decide_eq_true_eq, h0, h1, if_true, hw, hx]
  cases (x1 == blk) <;> cases (x2 == age) <;> rfl
 ·intro again i hi
  unfold wy
  simp only [Bool.cond_eq_ite, decide_eq_true_eq, if_neg hi]
  rfl
 ·split <;> rfl
theorem y2m (l : List y7) (blk age : Int) (hl : l.length ≤ 1073741824) : Wi (l, blk, age) = some (Wm l blk age) := by
 unfold Wi y1e Wm
 refine (YA (step := wG _ _) (fun i => (blk, age, l, (l.length : Int), i, 0, 0, 0, 0, 0)) (atP blk age) (fun i => some (y0p (y6 l i))) (some y53) yF l (by omega) ?_ ?_).trans ?_
 ·intro again i h0 h1
  have hw : Go.IntKind.wrap .i64 (i + 1) = i + 1 := w64 (by omega) (by omega)
  unfold wG atP y0p
  obtain ⟨⟨x1, x2, x3, x4, x5⟩, hx⟩ : ∃ x, y6 l i = x := ⟨_, rfl⟩
  have hx' : l.getD i.toNat yF = (x1, x2, x3, x4, x5) := hx
  rw [hx']
  simp only [Bool.cond_eq_ite, decide_eq_true_eq, h0, h1, if_true, hw, hx]
  cases (x1 == blk) <;> cases (x2 == age) <;> rfl
 ·intro again i hi
  unfold wG
  simp only [Bool.cond_eq_ite, decide_eq_true_eq, if_neg hi]
  rfl
 ·split <;> rfl
def jx (n : List ya) (blk age : Int) : Nat → Ans
 | 0 => y53
 | m + 1 => if (Wm (n.getD m z7) blk age).2.2.2.2.2 = true then (if ((Wm (n.getD m z7) blk age).2.2.1 == 0) = true then y53 else Wm (n.getD m z7) blk age) else jx n blk age m
theorem y5Q (n : List ya) (blk age : Int) (hn : n.length ≤ 1048576) (hs : ∀ s ∈ n, List.length s ≤ 1073741824) : WG (n, blk, age) = some (jx n blk age n.length) := by
 unfold WG QS
 rw [w64 (n := (n.length : Int) - 1) (by omega) (by omega)]
 refine (Zy (step := WF _ _) (fun u : WE => (u.2.2.1 + 1).toNat) (fun u => ∃ m : Nat, m ≤ n.length ∧ u = (blk, age, (m : Int) - 1, n, 0, 0, 0, 0, 0)) (fun u => some (jx n blk age (u.2.2.1 + 1).toNat)) ?_ (blk, age, (n.length : Int) - 1, n, 0, 0, 0, 0, 0) ⟨n.length, by omega, rfl⟩ (by simp; omega)).trans ?_
 ·rintro again u ⟨m, hm, rfl⟩ hag
  unfold WF
  cases m with
  | zero => rfl
  | succ m =>
   have e1 : ((m + 1 : Nat) : Int) - 1 = (m : Int) := by omega
   have hw : Go.IntKind.wrap .i64 ((m : Int) - 1) = (m : Int) - 1 := w64 (by omega) (by omega)
   have h0 : 0 ≤ (m : Int) := by omega
   have h1 : (m : Int) < (n.length : Int) := by omega
   have e := y2l (yp n (m : Int)) blk age (hs _ (yX z7 n (m : Int) h0 h1))
   have hx : n.getD m z7 = yp n (m : Int) := rfl
   rw [e1]
   simp only [Bool.cond_eq_ite, decide_eq_true_eq, ge_iff_le, h0, h1, if_true, Option.bind_some, hw, e]
   have e' := hag (blk, age, (m : Int) - 1, n, 0, 0, 0, 0, 0) ⟨m, by omega, rfl⟩ (by simp only; omega)
   rw [e', show ((m : Int) + 1).toNat = m + 1 by omega, jx, hx]
   simp only
   rw [show ((m : Int) - 1 + 1).toNat = m by omega]
   obtain ⟨r1, r2, r3, r4, r5, r6⟩ := Wm (yp n (m : Int)) blk age
   cases r6
   ·rfl
   ·cases h3 : (r3 == 0) <;> simp [h3, y53]
 ·simp only
  rw [show ((n.length : Int) - 1 + 1).toNat = n.length by omega]
theorem y5R (n : List ya) (blk age : Int) (hn : n.length ≤ 1048576) (hs : ∀ s ∈ n, List.length s ≤ 1073741824) : kj (n, blk, age) = some (jx n blk age n.length) := by
 unfold kj y0c
 rw [w64 (n := (n.length : Int) - 1) (by omega) (by omega)]
 refine (Zy (step := ki _ _) (fun u : kh => (u.2.2.1 + 1).toNat) (fun u => ∃ m : Nat, m ≤ n.length ∧ u = (blk, age, (m : Int) - 1, n, 0, 0, 0, 0, 0)) (fun u => some (jx n blk age (u.2.2.1 + 1).toNat)) ?_ (blk, age, (n.length : Int) - 1, n, 0, 0, 0, 0, 0) ⟨n.length, by omega, rfl⟩ (by simp; omega)).trans ?_
 ·rintro again u ⟨m, hm, rfl⟩ hag
  unfold ki
  cases m with
  | zero => rfl
  | succ m =>
   have e1 : ((m + 1 : Nat) : Int) - 1 = (m : Int) := by omega
   have hw : Go.IntKind.wrap .i64 ((m : Int) - 1) = (m : Int) - 1 := w64 (by omega) (by omega)
   have h0 : 0 ≤ (m : Int) := by omega
   have h1 : (m : Int) < (n.length : Int) := by omega
   have e := y2m (yp n (m : Int)) blk age (hs _ (yX z7 n (m : Int) h0 h1))
   have hx : n.getD m z7 = yp n (m : Int) := rfl
   rw [e1]
   simp only [Bool.cond_eq_ite, decide_eq_true_eq, ge_iff_le, h0, h1, if_true, Option.bind_some, hw, e]
   have e' := hag (blk, age, (m : Int) - 1, n, 0, 0, 0, 0, 0) ⟨m, by omega, rfl⟩ (by simp only; omega)
   rw [e', show ((m : Int) + 1).toNat = m + 1 by omega, jx, hx]
   simp only
   rw [show ((m : Int) - 1 + 1).toNat = m by omega]
   obtain ⟨r1, r2, r3, r4, r5, r6⟩ := Wm (yp n (m : Int)) blk age
   cases r6
   ·rfl
   ·cases h3 : (r3 == 0) <;> simp [h3, y53]
 ·simp only
  rw [show ((n.length : Int) - 1 + 1).toNat = n.length by omega]
def YT (q : List Int) (t : List y0) (blk age : Int) : Ans :=
 if inR (W7 q (jS blk age) q.length) 0 ((t.length : Int) - 1) = true then jx (yf t (W7 q (jS blk age) q.length)) blk age (yf t (W7 q (jS blk age) q.length)).length else y53
theorem Kq (q : List Int) (t : List y0) (blk age : Int) (ht : TOk t) (hq : q.length ≤ 1048576) : jq (q, t, blk, age) = some (YT q t blk age) := by
 unfold jq YT
 have hlen := ht.len
 rw [w64 (n := (t.length : Int) - 1) (by omega) (by omega)]
 simp only [y0n q t blk age hq, ZK, Option.bind_some]
 generalize W7 q (jS blk age) q.length = i
 by_cases h : inR i 0 ((t.length : Int) - 1) = true
 ·obtain ⟨h0, h1⟩ := zt.1 h
  have hmem : yf t i ∈ t := yX yg t i h0 (by omega)
  obtain ⟨a1, a2⟩ := ht.node hmem
  have e := y5Q (yf t i) blk age a1 (fun s hs => by have := a2 s hs; omega)
  rw [h, if_pos h0, if_pos (by omega), e]
  rfl
 ·have : inR i 0 ((t.length : Int) - 1) = false := by simpa using h
  rw [this]
  rfl
theorem y1p (q : List Int) (t : List y0) (blk age : Int) (ht : TOk t) (hq : q.length ≤ 1048576) : w7 (q, t, blk, age) = some (YT q t blk age) := by
 unfold w7 YT
 have hlen := ht.len
 rw [w64 (n := (t.length : Int) - 1) (by omega) (by omega)]
 simp only [y0o q t blk age hq, jd, Option.bind_some]
 generalize W7 q (jS blk age) q.length = i
 by_cases h : inR i 0 ((t.length : Int) - 1) = true
 ·obtain ⟨h0, h1⟩ := zt.1 h
  have hmem : yf t i ∈ t := yX yg t i h0 (by omega)
  obtain ⟨a1, a2⟩ := ht.node hmem
  have e := y5R (yf t i) blk age a1 (fun s hs => by have := a2 s hs; omega)
  rw [h, if_pos h0, if_pos (by omega), e]
  rfl
 ·have : inR i 0 ((t.length : Int) - 1) = false := by simpa using h
  rw [this]
  rfl
end Go.Proofs.YtjllpipmaejeoaaGreat.Pl
namespace Go.Proofs.YtjllpipmaejeoaaGreat.Pl
open Go.Proofs.YtjllpipmaejeoaaGreat.R Go.Proofs.YtjllpipmaejeoaaGreat.XW
structure NS (n : List ya) : Prop where
 len : n.length ≤ 1000
 sum : kr qc n ≤ 1000
theorem NS.mem {n : List ya} (h : NS n) {s : ya} (hs : s ∈ n) : List.length s ≤ 1000 := by
 have h1 := (y0L K6 hs).1
 have h2 := h.sum
 have h3 : qc s = (List.length s : Int) := rfl
 omega
theorem NS.q {n : List ya} (h : NS n) : y3P n := ⟨Nat.le_trans h.len (by decide), fun b hb => Nat.le_trans (h.mem hb) (by decide)⟩
theorem NS.keys {n : List ya} (h : NS n) : (yz n).length ≤ 1000 := by
 have h1 := KD n
 have h2 := h.sum
 omega
def w9 (n : List ya) : ya := n.getD (n.length - 1) z7
theorem y2n {n : List ya} (h : 0 < n.length) : w9 n ∈ n := by
 unfold w9
 rw [yE _ _ _ (by omega)]
 exact List.getElem_mem _
def JJ (n : List ya) (k : y7) : List ya :=
 if 0 < n.length ∧ (List.length (w9 n) < 4 ∨ (Wm (w9 n) k.1 k.2.1).2.2.2.2.2 = true) then n.set (n.length - 1) (Y0 (w9 n) k) else n ++ [[k]]
def Ya (n : List ya) (k : y7) : List y7 := W5 (Y0 (yz n) k)
def zn (n : List ya) (k : y7) : List ya × Bool :=
 if YB (JJ n k) = true then (JJ n k, true) else if (Ya n k).length > 8 then (n, false) else if YB (yN (Ya n k)) = true then (yN (Ya n k), true) else (n, false)
theorem ygw (l : List y7) : (W5 l).length ≤ l.length := by
 have := y4S l []
 simpa [W5] using this
theorem y2o (n : List ya) (k : y7) : (Ya n k).length ≤ (yz n).length + 1 := by
 have h1 := ygw (Y0 (yz n) k)
 have h2 := Wk (yz n) k
 unfold Ya
 omega
theorem JK (l : List y7) (h : l.length ≤ 1048576) : yY l = some (yN l) := by
 unfold yY yN
 by_cases h0 : l.length = 0
 ·rw [if_pos h0, show (((List.length l : Nat) : Int) == 0) = true from beq_iff_eq.2 (by omega)]
  rfl
 ·rw [if_neg h0, show (((List.length l : Nat) : Int) == 0) = false from beq_eq_false_iff_ne.2 (by omega), cond_false, if_pos (by simp only [List.length_nil]; omega)]
  rfl
theorem kA (l : List y7) (h : l.length ≤ 1048576) : zD l = some (yN l) := by
 unfold zD yN
 by_cases h0 : l.length = 0
 ·rw [if_pos h0, show (((List.length l : Nat) : Int) == 0) = true from beq_iff_eq.2 (by omega)]
  rfl
 ·rw [if_neg h0, show (((List.length l : Nat) : Int) == 0) = false from beq_eq_false_iff_ne.2 (by omega), cond_false, KY l h]
  rfl
theorem y0R {l : List y7} (h : l.length ≤ 1000) : NS (yN l) := by
 unfold yN
 split
 ·exact ⟨by simp, by simp [kr]⟩
 ·exact ⟨by simp, by simp [kr, qc]; omega⟩
theorem y54 (l : List y7) : (yN l).length ≤ 1 ∧ kr qc (yN l) ≤ l.length := by
 unfold yN
 split
 ·exact ⟨by simp, by simp [kr]⟩
 ·exact ⟨by simp, by simp [kr, qc]⟩
theorem yn7 {n : List ya} (i : Nat) (s : ya) (hi : i < n.length) : kr qc (n.set i s) = kr qc n - qc (n.getD i z7) + qc s := by
 induction n generalizing i with
 | nil => simp at hi
 | cons a n ih =>
  cases i with
  | zero =>
   rw [List.set_cons_zero, Yj, Yj]
   simp
   omega
  | succ i =>
   rw [List.set_cons_succ, Yj, Yj, ih i (by simpa using hi), List.getD_cons_succ]
   omega
theorem ygx {A : Type} (w : A → Int) (l : List A) (a : A) : kr w (l ++ [a]) = kr w l + w a := by
 induction l with
 | nil => simp [kr]
 | cons b l ih =>
  rw [List.cons_append, Yj, Yj, ih]
  omega
theorem y2W (n : List ya) (k : y7) : (JJ n k).length ≤ n.length + 1 ∧ kr qc (JJ n k) ≤ kr qc n + 1 := by
 unfold JJ
 split
 ·rename_i h
  have h1 := Wk (w9 n) k
  have h2 : qc (Y0 (w9 n) k) ≤ qc (w9 n) + 1 := by
   unfold qc
   have : List.length (Y0 (w9 n) k) ≤ List.length (w9 n) + 1 := h1
   omega
  rw [List.length_set, yn7 _ _ (by omega)]
  have e : n.getD (n.length - 1) z7 = w9 n := rfl
  rw [e]
  constructor <;> omega
 ·rw [ygx, List.length_append]
  have e : qc [k] = 1 := rfl
  rw [e]
  exact ⟨Nat.le_refl _, Int.le_refl _⟩
theorem NS.small {n : List ya} (h1 : n.length ≤ 1001) (h2 : kr qc n ≤ 1001) : n.length ≤ 1073741824 ∧ ∀ s ∈ n, List.length s ≤ 1073741824 := by
 refine ⟨by omega, fun s hs => ?_⟩
 have h3 := (y0L K6 hs).1
 have h4 : qc s = (List.length s : Int) := rfl
 omega
section
variable (n : List ya) (a b c d e : Int) (h : NS n)
include h
theorem y55 : wz (n, a, b, c, d, e) = some (zn n (a, b, c, d, e)) := by
 have hk := h.keys
 have hl := h.len
 have hs := h.sum
 have hW := y2o n (a, b, c, d, e)
 have hN := y54 (Ya n (a, b, c, d, e))
 have hN2 := NS.small (n := yN (Ya n (a, b, c, d, e))) (by omega) (by omega)
 have hO := y2W n (a, b, c, d, e)
 have hO2 := NS.small (n := JJ n (a, b, c, d, e)) (by omega) (by omega)
 have hw : Go.IntKind.wrap .i64 ((n.length : Int) - 1) = (n.length : Int) - 1 := w64 (by omega) (by omega)
 have hT : ∀ out, out = JJ n (a, b, c, d, e) → (Option.bind (zz out) fun r6 => bif r6 then some (out, true) else Option.bind (yC n) fun r7 => Option.bind (zJ (r7, a, b, c, d, e)) fun r8 => Option.bind (Y4 r8) fun r9 => bif (decide (((List.length r9 : Nat) : Int) > (8 : Int))) then some (n, false) else Option.bind (yY r9) fun r11 => Option.bind (zz r11) fun r12 => bif (!r12) then some (n, false) else Option.bind (yY r9) fun r14 => some (r14, true)) = some (zn n (a, b, c, d, e)) := by
  rintro out rfl
  have e1 : Y4 (Y0 (yz n) (a, b, c, d, e)) = some (Ya n (a, b, c, d, e)) := y0h _ (by have := Wk (yz n) (a, b, c, d, e); omega)
  simp only [VR _ hO2.1 hO2.2, Ze n (by omega) (by omega), Kn (yz n) a b c d e (by omega), e1, JK (Ya n (a, b, c, d, e)) (by omega), VR _ hN2.1 hN2.2, Option.bind_some]
  unfold zn
  cases YB (JJ n (a, b, c, d, e)) with
  | true => rfl
  | false =>
   by_cases h8 : (Ya n (a, b, c, d, e)).length > 8
   ·rw [decide_eq_true (show ((List.length (Ya n (a, b, c, d, e)) : Nat) : Int) > 8 by omega), if_pos h8]
    rfl
   ·rw [decide_eq_false (show ¬ ((List.length (Ya n (a, b, c, d, e)) : Nat) : Int) > 8 by omega), if_neg h8]
    cases YB (yN (Ya n (a, b, c, d, e))) <;> rfl
 unfold wz
 simp only [VW n h.q, Option.bind_some, hw]
 by_cases h0 : n.length = 0
 ·have e1 : ¬ (0 < n.length ∧ (List.length (w9 n) < 4 ∨ (Wm (w9 n) a b).2.2.2.2.2 = true)) := fun hh => by omega
  simp only [decide_eq_false (show ¬ ((n.length : Int) - 1 ≥ 0) by omega), cond_false, Option.bind_some]
  rw [if_pos (by simp only [List.length_cons, List.length_nil]; omega)]
  exact hT _ (by unfold JJ; rw [if_neg e1])
 ·have i0 : 0 ≤ (n.length : Int) - 1 := by omega
  have i1 : (n.length : Int) - 1 < ((List.length n : Nat) : Int) := by omega
  have hlm := h.mem (y2n (n := n) (by omega))
  have erd : yp n ((n.length : Int) - 1) = w9 n := by
   show n.getD ((n.length : Int) - 1).toNat z7 = n.getD (n.length - 1) z7
   congr 1
   omega
  have etn : ((n.length : Int) - 1).toNat = n.length - 1 := by omega
  rw [decide_eq_true (show (n.length : Int) - 1 ≥ 0 from i0)]
  simp only [cond_true, i0, i1, if_true, erd, etn, y2l (w9 n) a b (by omega), Kn (w9 n) a b c d e (by omega), Option.bind_some]
  by_cases h4 : List.length (w9 n) < 4
  ·rw [decide_eq_true (show ((List.length (w9 n) : Nat) : Int) < 4 by omega)]
   exact hT _ (by unfold JJ; rw [if_pos ⟨by omega, .inl h4⟩])
  ·rw [decide_eq_false (show ¬ ((List.length (w9 n) : Nat) : Int) < 4 by omega)]
   cases hA : (Wm (w9 n) a b).2.2.2.2.2 with
   | true => exact hT _ (by unfold JJ; rw [if_pos ⟨by omega, .inr hA⟩])
   | false =>
    simp only [cond_false, Option.bind_some]
    rw [if_pos (by simp only [List.length_cons, List.length_nil]; omega)]
    exact hT _ (by
     unfold JJ
     rw [if_neg fun hh => ?_]
     rcases hh.2 with hh | hh
     ·exact h4 hh
     ·rw [hA] at hh
      cases hh)
theorem Qq : zU (n, a, b, c, d, e) = some (Ya n (a, b, c, d, e)) := by
 have hk := h.keys
 have hl := h.len
 have hs := h.sum
 have e1 : Js (Y0 (yz n) (a, b, c, d, e)) = some (Ya n (a, b, c, d, e)) := y3o _ (by have := Wk (yz n) (a, b, c, d, e); omega)
 unfold zU
 simp only [jP n (by omega) (by omega), VQ (yz n) a b c d e (by omega), e1, Option.bind_some]
theorem y56 : wJ (n, a, b, c, d, e) = some (zn n (a, b, c, d, e)) := by
 have hk := h.keys
 have hl := h.len
 have hs := h.sum
 have hW := y2o n (a, b, c, d, e)
 have hN := y54 (Ya n (a, b, c, d, e))
 have hN2 := NS.small (n := yN (Ya n (a, b, c, d, e))) (by omega) (by omega)
 have hO := y2W n (a, b, c, d, e)
 have hO2 := NS.small (n := JJ n (a, b, c, d, e)) (by omega) (by omega)
 have hw : Go.IntKind.wrap .i64 ((n.length : Int) - 1) = (n.length : Int) - 1 := w64 (by omega) (by omega)
 have hT : ∀ out, out = JJ n (a, b, c, d, e) → (Option.bind (zM out) fun r5 => bif r5 then some (out, true) else Option.bind (zU (n, a, b, c, d, e)) fun r6 => Option.bind (zD r6) fun r7 => Option.bind (bif (decide (((List.length r6 : Nat) : Int) > (8 : Int))) then some true else Option.bind (zM r7) fun r9 => some (!r9)) fun u8 => bif u8 then some (n, false) else some (r7, true)) = some (zn n (a, b, c, d, e)) := by
  rintro out rfl
  simp only [VS _ hO2.1 hO2.2, Qq n a b c d e h, kA (Ya n (a, b, c, d, e)) (by omega), VS _ hN2.1 hN2.2, Option.bind_some]
  unfold zn
  cases YB (JJ n (a, b, c, d, e)) with
  | true => rfl
  | false =>
   by_cases h8 : (Ya n (a, b, c, d, e)).length > 8
   ·rw [decide_eq_true (show ((List.length (Ya n (a, b, c, d, e)) : Nat) : Int) > 8 by omega), if_pos h8]
    rfl
   ·rw [decide_eq_false (show ¬ ((List.length (Ya n (a, b, c, d, e)) : Nat) : Int) > 8 by omega), if_neg h8]
    cases YB (yN (Ya n (a, b, c, d, e))) <;> rfl
 unfold wJ
 simp only [KZ n h.q, Option.bind_some, hw]
 by_cases h0 : n.length = 0
 ·have e1 : ¬ (0 < n.length ∧ (List.length (w9 n) < 4 ∨ (Wm (w9 n) a b).2.2.2.2.2 = true)) := fun hh => by omega
  simp only [decide_eq_false (show ¬ ((n.length : Int) - 1 ≥ 0) by omega), cond_false, Option.bind_some]
  rw [if_pos (by simp only [List.length_cons, List.length_nil]; omega)]
  exact hT _ (by unfold JJ; rw [if_neg e1])
 ·have i0 : 0 ≤ (n.length : Int) - 1 := by omega
  have i1 : (n.length : Int) - 1 < ((List.length n : Nat) : Int) := by omega
  have hlm := h.mem (y2n (n := n) (by omega))
  have erd : yp n ((n.length : Int) - 1) = w9 n := by
   show n.getD ((n.length : Int) - 1).toNat z7 = n.getD (n.length - 1) z7
   congr 1
   omega
  have etn : ((n.length : Int) - 1).toNat = n.length - 1 := by omega
  rw [decide_eq_true (show (n.length : Int) - 1 ≥ 0 from i0)]
  simp only [cond_true, i0, i1, if_true, erd, etn, y2m (w9 n) a b (by omega), VQ (w9 n) a b c d e (by omega), Option.bind_some]
  cases hA : (Wm (w9 n) a b).2.2.2.2.2 with
  | true => exact hT _ (by unfold JJ; rw [if_pos ⟨by omega, .inr hA⟩])
  | false =>
   by_cases h4 : List.length (w9 n) < 4
   ·rw [decide_eq_true (show ((List.length (w9 n) : Nat) : Int) < 4 by omega)]
    exact hT _ (by unfold JJ; rw [if_pos ⟨by omega, .inl h4⟩])
   ·rw [decide_eq_false (show ¬ ((List.length (w9 n) : Nat) : Int) < 4 by omega)]
    simp only [cond_false, Option.bind_some]
    rw [if_pos (by simp only [List.length_cons, List.length_nil]; omega)]
    exact hT _ (by
     unfold JJ
     rw [if_neg fun hh => ?_]
     rcases hh.2 with hh | hh
     ·exact h4 hh
     ·rw [hA] at hh
      cases hh)
end
end Go.Proofs.YtjllpipmaejeoaaGreat.Pl
namespace Go.Proofs.YtjllpipmaejeoaaGreat.Pl
open Go.Proofs.YtjllpipmaejeoaaGreat.R Go.Proofs.YtjllpipmaejeoaaGreat.XW
structure TS (t : List y0) : Prop where
 len : t.length ≤ 100
 node : ∀ n ∈ t, NS n
theorem TS.ok {t : List y0} (h : TS t) : TOk t := by
 have hl := h.len
 refine ⟨by omega, fun n hn => Nat.le_trans (h.node n hn).len (by decide), ?_⟩
 have hb : ∀ (t : List y0), (∀ n ∈ t, NS n) → kr Qu t ≤ 2000 * t.length := by
  intro t
  induction t with
  | nil => intro _; simp [kr]
  | cons a t ih =>
   intro hn
   have h1 := ih fun n h => hn n (by simp [h])
   have h2 := hn a (by simp)
   have h3 : Qu a = (List.length a : Int) + kr qc a := rfl
   have h4 : List.length a ≤ 1000 := h2.len
   have h5 : kr qc a ≤ 1000 := h2.sum
   rw [Yj, List.length_cons]
   omega
 have := hb t h.node
 omega
def yZ {A : Type} (l : List A) (i c : Nat) (m : List A) : List A := l.take i ++ m ++ l.drop (i + c)
theorem YD {A : Type} (l : List A) (i c : Nat) (m : List A) (h : i + c ≤ l.length) : (yZ l i c m).length = l.length + m.length - c := by
 unfold yZ
 simp only [List.length_append, List.length_take, List.length_drop]
 omega
theorem yew {A : Type} {l : List A} {i c : Nat} {m : List A} {x : A} (h : x ∈ yZ l i c m) : x ∈ l ∨ x ∈ m := by
 unfold yZ at h
 rcases List.mem_append.1 h with h | h
 ·rcases List.mem_append.1 h with h | h
  ·exact .inl (List.mem_of_mem_take h)
  ·exact .inr h
 ·exact .inl (List.mem_of_mem_drop h)
theorem y0S {A : Type} (l : List A) (i : Nat) (x : A) (h : i < l.length) : yZ l i 1 [x] = l.set i x := by
 unfold yZ
 rw [List.set_eq_take_append_cons_drop, if_pos h]
 simp
theorem yex {A : Type} (d : A) (l : List A) (i : Nat) (h : i + 2 ≤ l.length) : yZ l i 2 [l.getD i d] = l.take (i + 1) ++ l.drop (i + 2) := by
 unfold yZ
 rw [yE _ _ _ (by omega), List.take_succ_eq_append_getElem (by omega)]
theorem TS.splice {t : List y0} (h : TS t) {i c : Nat} {m : List y0} (hl : (yZ t i c m).length ≤ 100) (hm : ∀ n ∈ m, NS n) : TS (yZ t i c m) :=
 ⟨hl, fun n hn => (yew hn).elim (h.node n) (hm n)⟩
theorem qU (q : List Int) (t : List y0) (i : Int) (ql : List Int) (tl : List y0) (h0 : 0 ≤ i) (h1 : i < (q.length : Int)) (h2 : i < (t.length : Int)) (hq : q.length ≤ 1000) (ht : t.length ≤ 1000) (hql : ql.length ≤ 1000) (htl : tl.length ≤ 1000) :
  Jj (q, t, i, ql, tl) = some (yZ q i.toNat 1 ql, yZ t i.toNat 1 tl) := by
 have hw : Go.IntKind.wrap .i64 (i + 1) = i + 1 := w64 (by omega) (by omega)
 have e1 : (i + 1).toNat = i.toNat + 1 := by omega
 unfold Jj
 simp only [hw]
 iterate 18 rw [if_pos (by first | omega | (simp only [List.length_append, List.length_drop, List.length_take, List.length_nil]; omega))]
 simp [yZ, e1]
theorem v6 (q : List Int) (t : List y0) (i c : Int) (ql : List Int) (tl : List y0) (h0 : 0 ≤ i) (hc : 0 ≤ c) (h1 : i + c ≤ (q.length : Int)) (h2 : i + c ≤ (t.length : Int)) (hq : q.length ≤ 1000) (ht : t.length ≤ 1000) (hql : ql.length ≤ 1000) (htl : tl.length ≤ 1000) :
  Y8 (q, t, i, c, ql, tl) = some (yZ q i.toNat c.toNat ql, yZ t i.toNat c.toNat tl) := by
 have hw : Go.IntKind.wrap .i64 (i + c) = i + c := w64 (by omega) (by omega)
 have e1 : (i + c).toNat = i.toNat + c.toNat := by omega
 have e2 : List.drop (Int.toNat 0) (List.take (Int.toNat i) q) = q.take i.toNat := rfl
 unfold Y8
 simp only [hw]
 iterate 3 rw [if_pos (by omega)]
 rw [e2, Qn _ (by rw [List.length_take]; omega)]
 simp only [Option.bind_some]
 iterate 14 rw [if_pos (by first | omega | (simp only [List.length_append, List.length_drop, List.length_take, List.length_nil]; omega))]
 simp [yZ, e1]
def yD : List y0 → Int → Int
 | a :: b :: r, i => if (yz a).length + (yz b).length ≤ 6 then i else yD (b :: r) (i + 1)
 | _, _ => -1
theorem y1F (l : List y0) (i : Int) (h : l.length ≤ 1) : yD l i = -1 := by
 match l, h with
 | [], _ => rfl
 | [_], _ => rfl
theorem y2X : ∀ (l : List y0) (i : Int), yD l i = -1 ∨ i ≤ yD l i ∧ yD l i + 2 ≤ i + l.length ∧ (yz (l.getD (yD l i - i).toNat yg)).length + (yz (l.getD (yD l i - i + 1).toNat yg)).length ≤ 6
 | [], _ => .inl rfl
 | [_], _ => .inl rfl
 | a :: b :: r, i => by
  rw [yD]
  by_cases h : (yz a).length + (yz b).length ≤ 6
  ·rw [if_pos h]
   refine .inr ⟨Int.le_refl _, by simp only [List.length_cons]; omega, ?_⟩
   rw [show (i - i).toNat = 0 by omega, show (i - i + 1).toNat = 1 by omega]
   exact h
  ·rw [if_neg h]
   rcases y2X (b :: r) (i + 1) with h1 | ⟨h1, h2, h3⟩
   ·exact .inl h1
   ·refine .inr ⟨by omega, by simp only [List.length_cons] at h2 ⊢; omega, ?_⟩
    rw [show (yD (b :: r) (i + 1) - i).toNat = (yD (b :: r) (i + 1) - (i + 1)).toNat + 1 by omega, show (yD (b :: r) (i + 1) - i + 1).toNat = (yD (b :: r) (i + 1) - (i + 1) + 1).toNat + 1 by omega, List.getD_cons_succ, List.getD_cons_succ]
    exact h3
theorem ydh (t : List y0) (i : Int) (h0 : 0 ≤ i) (h1 : i + 1 < (t.length : Int)) : yD (t.drop i.toNat) i = if (yz (yf t i)).length + (yz (yf t (i + 1))).length ≤ 6 then i else yD (t.drop (i + 1).toNat) (i + 1) := by
 rw [JG yg t i h0 (by omega), JG yg t (i + 1) (by omega) h1, yD]
 rfl
theorem nk {t : List y0} (h : TS t) {i : Int} (h0 : 0 ≤ i) (h1 : i < (t.length : Int)) : NS (yf t i) := h.node _ (yX yg t i h0 h1)
theorem Vg {t : List y0} (h : TS t) {i : Int} (h0 : 0 ≤ i) (h1 : i < (t.length : Int)) : yC (yf t i) = some (yz (yf t i)) := by
 have hn := nk h h0 h1
 exact Ze _ (Nat.le_trans hn.len (by decide)) (Int.le_trans hn.sum (by decide))
theorem y57 {t : List y0} (h : TS t) {i : Int} (h0 : 0 ≤ i) (h1 : i < (t.length : Int)) : yS (yf t i) = some (yz (yf t i)) := by
 have hn := nk h h0 h1
 exact jP _ (Nat.le_trans hn.len (by decide)) (Int.le_trans hn.sum (by decide))
theorem y3t (q : List Int) (t : List y0) (h : TS t) : JV (q, t) = some (yD t 0) := by
 have hl := h.len
 unfold JV QT
 refine Zy (step := WH _ _) (fun x : Int × List Int × List y0 => t.length - x.1.toNat) (fun x => x.2.2 = t ∧ 0 ≤ x.1 ∧ x.1 ≤ (t.length : Int)) (fun x => some (yD (t.drop x.1.toNat) x.1)) ?_ (0, q, t) ⟨rfl, Int.le_refl _, by simp⟩ (by simp; omega)
 rintro again ⟨i, q', t'⟩ ⟨rfl, i0, i1⟩ hag
 simp only at i0 i1 hl h ⊢
 unfold WH
 by_cases hi : i + 1 < (t'.length : Int)
 ·have hw : Go.IntKind.wrap .i64 (i + 1) = i + 1 := w64 (by omega) (by omega)
  have k1 := nk h i0 (show i < (t'.length : Int) by omega)
  have k2 := nk h (show 0 ≤ i + 1 by omega) hi
  have hw2 : Go.IntKind.wrap .i64 (((List.length (yz (yf t' i)) : Nat) : Int) + ((List.length (yz (yf t' (i + 1))) : Nat) : Int)) = ((List.length (yz (yf t' i)) : Nat) : Int) + ((List.length (yz (yf t' (i + 1))) : Nat) : Int) := w64 (by omega) (by have := k1.keys; have := k2.keys; omega)
  simp only [hw, Vg h i0 (show i < (t'.length : Int) by omega), Vg h (show 0 ≤ i + 1 by omega) hi, Option.bind_some, hw2]
  rw [decide_eq_true hi, cond_true, if_pos i0, if_pos (by omega), if_pos (by omega), if_pos hi, ydh t' i i0 hi]
  by_cases h6 : (yz (yf t' i)).length + (yz (yf t' (i + 1))).length ≤ 6
  ·rw [decide_eq_true (show ((List.length (yz (yf t' i)) : Nat) : Int) + ((List.length (yz (yf t' (i + 1))) : Nat) : Int) ≤ 6 by omega), if_pos h6]
   rfl
  ·rw [decide_eq_false (show ¬ ((List.length (yz (yf t' i)) : Nat) : Int) + ((List.length (yz (yf t' (i + 1))) : Nat) : Int) ≤ 6 by omega), if_neg h6]
   exact hag _ ⟨rfl, by simp only; omega, by simp only; omega⟩ (by simp only; omega)
 ·have hw : ¬ Go.IntKind.wrap .i64 (i + 1) < (t'.length : Int) := by
   rw [w64 (by omega) (by omega)]
   exact hi
  rw [decide_eq_false hw, y1F _ _ (by rw [List.length_drop]; omega)]
  rfl
def jh : Nat → List Int → List y0 → List Int × List y0
 | 0, q, t => (q, t)
 | m + 1, q, t => if yD t 0 < 0 then (q, t) else jh m (yZ q (yD t 0).toNat 2 [q.getD (yD t 0).toNat 0]) (yZ t (yD t 0).toNat 2 [yN (yz (t.getD (yD t 0).toNat yg) ++ yz (t.getD (yD t 0 + 1).toNat yg))])
section
variable {q : List Int} {t : List y0} (h : TS t) (hq : q.length = t.length) (hp : ¬ yD t 0 < 0)
include h hp
omit h in
theorem y2Y : 0 ≤ yD t 0 ∧ yD t 0 + 2 ≤ (t.length : Int) ∧ (yz (yf t (yD t 0))).length + (yz (yf t (yD t 0 + 1))).length ≤ 6 := by
 rcases y2X t 0 with h1 | ⟨h1, h2, h3⟩
 ·omega
 ·refine ⟨h1, by omega, ?_⟩
  rw [Int.sub_zero] at h3
  exact h3
theorem ycb : TS (yZ t (yD t 0).toNat 2 [yN (yz (yf t (yD t 0)) ++ yz (yf t (yD t 0 + 1)))]) := by
 obtain ⟨h1, h2, h3⟩ := y2Y hp
 have hl := h.len
 refine h.splice (by rw [YD _ _ _ _ (by omega)]; simp only [List.length_cons, List.length_nil]; omega) fun n hn => ?_
 obtain rfl := List.mem_singleton.1 hn
 exact y0R (by rw [List.length_append]; omega)
include hq
theorem ydi : (yZ t (yD t 0).toNat 2 [yN (yz (yf t (yD t 0)) ++ yz (yf t (yD t 0 + 1)))]).length = t.length - 1 ∧ (yZ q (yD t 0).toNat 2 [q.getD (yD t 0).toNat 0]).length = t.length - 1 := by
 obtain ⟨h1, h2, h3⟩ := y2Y hp
 rw [YD _ _ _ _ (by omega), YD _ _ _ _ (by omega)]
 simp only [List.length_cons, List.length_nil]
 omega
theorem y6C : jh t.length q t = jh (t.length - 1) (yZ q (yD t 0).toNat 2 [q.getD (yD t 0).toNat 0]) (yZ t (yD t 0).toNat 2 [yN (yz (yf t (yD t 0)) ++ yz (yf t (yD t 0 + 1)))]) := by
 obtain ⟨h1, h2, h3⟩ := y2Y hp
 rw [show t.length = (t.length - 1) + 1 by omega, jh, if_neg hp]
 rfl
end
theorem ya2 {q : List Int} {t : List y0} (m : Nat) (hp : yD t 0 < 0) : jh m q t = (q, t) := by
 cases m with
 | zero => rfl
 | succ m => rw [jh, if_pos hp]
theorem ya3 (q : List Int) (t : List y0) (h : TS t) (hq : q.length = t.length) : Zl (q, t) = some (jh t.length q t) := by
 have hl := h.len
 unfold Zl QU
 simp only [y3t q t h, Option.bind_some]
 refine Zy (step := WI _) (fun x : Int × List Int × List y0 => x.2.2.length) (fun x => TS x.2.2 ∧ x.2.1.length = x.2.2.length ∧ x.1 = yD x.2.2 0) (fun x => some (jh x.2.2.length x.2.1 x.2.2)) ?_ (yD t 0, q, t) ⟨h, hq, rfl⟩ (by simp only; omega)
 rintro again ⟨i, q, t⟩ ⟨h, hq, hi⟩ hag
 simp only at h hq hi ⊢
 subst hi
 have hl := h.len
 unfold WI
 by_cases hp : yD t 0 < 0
 ·rw [decide_eq_false (show ¬ yD t 0 ≥ 0 by omega), ya2 _ hp]
  rfl
 ·obtain ⟨h1, h2, h3⟩ := y2Y hp
  have hw : Go.IntKind.wrap .i64 (yD t 0 + 1) = yD t 0 + 1 := w64 (by omega) (by omega)
  have hw2 : Go.IntKind.wrap .i64 (yD t 0 + 2) = yD t 0 + 2 := w64 (by omega) (by omega)
  have hT := ycb h hp
  have hL := ydi h hq hp
  have eq1 : ([] ++ List.drop (Int.toNat 0) (List.take (Int.toNat (yD t 0 + 1)) q)) ++ List.drop (Int.toNat (yD t 0 + 2)) (List.take (Int.toNat (q.length : Int)) q) = yZ q (yD t 0).toNat 2 [q.getD (yD t 0).toNat 0] := by
   rw [yex 0 q _ (by omega), show (yD t 0 + 1).toNat = (yD t 0).toNat + 1 by omega, show (yD t 0 + 2).toNat = (yD t 0).toNat + 2 by omega]
   simp
  have eq2 : ∀ n : y0, (([] ++ List.drop (Int.toNat 0) (List.take (Int.toNat (yD t 0)) t)) ++ [n]) ++ List.drop (Int.toNat (yD t 0 + 2)) (List.take (Int.toNat (t.length : Int)) t) = yZ t (yD t 0).toNat 2 [n] := fun n => by
   rw [show (yD t 0 + 2).toNat = (yD t 0).toNat + 2 by omega]
   simp [yZ]
  simp only [hw, hw2, Vg h h1 (show yD t 0 < (t.length : Int) by omega), Vg h (show 0 ≤ yD t 0 + 1 by omega) (show yD t 0 + 1 < (t.length : Int) by omega), JK (yz (yf t (yD t 0)) ++ yz (yf t (yD t 0 + 1))) (by rw [List.length_append]; omega), Option.bind_some, eq1, eq2, y3t _ _ hT]
  rw [decide_eq_true (show yD t 0 ≥ 0 from h1), cond_true]
  iterate 22 rw [if_pos (by first | omega | (simp only [List.length_append, List.length_drop, List.length_take, List.length_nil, List.length_cons]; omega))]
  rw [y6C h hq hp, ← hL.1]
  exact hag (yD (yZ t (yD t 0).toNat 2 [yN (yz (yf t (yD t 0)) ++ yz (yf t (yD t 0 + 1)))]) 0, yZ q (yD t 0).toNat 2 [q.getD (yD t 0).toNat 0], yZ t (yD t 0).toNat 2 [yN (yz (yf t (yD t 0)) ++ yz (yf t (yD t 0 + 1)))]) ⟨hT, hL.2.trans hL.1.symm, rfl⟩ (by simp only; omega)
theorem y5S (q : List Int) (t : List y0) (h : TS t) (hq : q.length = t.length) : Zw (q, t) = some (jh t.length q t) := by
 have hl := h.len
 unfold Zw y0d
 have key : ∀ (i : Int) (q : List Int) (t : List y0) (k1 k2 : Int × List Int × List y0 → Option (List Int × List y0)), TS t → q.length = t.length → 0 ≤ i → i ≤ (t.length : Int) → yD t 0 = yD (t.drop i.toNat) i →
   (∀ i' q' t', TS t' → q'.length = t'.length → 0 ≤ i' → i' ≤ (t'.length : Int) → yD t' 0 = yD (t'.drop i'.toNat) i' → t'.length * 1000 + (t'.length - i'.toNat) < t.length * 1000 + (t.length - i.toNat) → k1 (i', q', t') = some (jh t'.length q' t') ∧ k2 (i', q', t') = some (jh t'.length q' t')) →
   (bif (decide ((Go.IntKind.wrap .i64 (i + (1 : Int))) < ((List.length t : Nat) : Int))) then if (0 : Int) ≤ i then if i < ((List.length t : Nat) : Int) then Option.bind (yS (yf t i)) fun r5 => if (0 : Int) ≤ (Go.IntKind.wrap .i64 (i + (1 : Int))) then if (Go.IntKind.wrap .i64 (i + (1 : Int))) < ((List.length t : Nat) : Int) then Option.bind (yS (yf t (Go.IntKind.wrap .i64 (i + (1 : Int))))) fun r6 => if (List.length r5 + List.length r6) * 40 < 140737488355328 then bif (decide (((List.length (r5 ++ r6) : Nat) : Int) ≤ (6 : Int))) then if (0 : Int) ≤ i then if i < ((List.length q : Nat) : Int) then Option.bind (zD (r5 ++ r6)) fun r7 => Option.bind (Y8 (q, t, i, (2 : Int), ([(zu q i)] : List yc), ([r7] : List y0))) fun r8 => k1 ((Go.IntKind.wrap .i64 ((-1 : Int) + (1 : Int))), r8.1, r8.2) else none else none else k2 ((Go.IntKind.wrap .i64 (i + (1 : Int))), q, t) else none else none else none else none else none else some (q, t)) = some (jh t.length q t) := by
  intro i q t k1 k2 h hq i0 i1 hpi hk
  have hl := h.len
  have hw : Go.IntKind.wrap .i64 (i + 1) = i + 1 := w64 (by omega) (by omega)
  have hw0 : Go.IntKind.wrap .i64 (-1 + 1) = 0 := rfl
  simp only [hw, hw0]
  by_cases hi : i + 1 < (t.length : Int)
  ·have g1 := (nk h i0 (show i < (t.length : Int) by omega)).keys
   have g2 := (nk h (show 0 ≤ i + 1 by omega) hi).keys
   rw [ydh t i i0 hi] at hpi
   simp only [y57 h i0 (show i < (t.length : Int) by omega), y57 h (show 0 ≤ i + 1 by omega) hi, Option.bind_some]
   rw [decide_eq_true hi, cond_true, if_pos i0, if_pos (by omega), if_pos (by omega), if_pos hi, if_pos (by omega)]
   by_cases h6 : (yz (yf t i)).length + (yz (yf t (i + 1))).length ≤ 6
   ·rw [if_pos h6] at hpi
    subst hpi
    have hp : ¬ yD t 0 < 0 := by omega
    have hT := ycb h hp
    have hL := ydi h hq hp
    rw [decide_eq_true (show ((List.length (yz (yf t (yD t 0)) ++ yz (yf t (yD t 0 + 1))) : Nat) : Int) ≤ 6 by rw [List.length_append]; omega), cond_true, if_pos i0, if_pos (by omega), kA _ (by rw [List.length_append]; omega)]
    simp only [Option.bind_some]
    rw [v6 q t _ 2 _ _ i0 (by decide) (by omega) (by omega) (by omega) (by omega) (by simp) (by simp)]
    simp only [Option.bind_some]
    rw [y6C h hq hp, ← hL.1]
    exact (hk 0 (yZ q (yD t 0).toNat 2 [q.getD (yD t 0).toNat 0]) (yZ t (yD t 0).toNat 2 [yN (yz (yf t (yD t 0)) ++ yz (yf t (yD t 0 + 1)))]) hT (hL.2.trans hL.1.symm) (Int.le_refl _) (by omega) rfl (by omega)).1
   ·rw [if_neg h6] at hpi
    rw [decide_eq_false (show ¬ ((List.length (yz (yf t i) ++ yz (yf t (i + 1))) : Nat) : Int) ≤ 6 by rw [List.length_append]; omega), cond_false]
    exact (hk (i + 1) q t h hq (by omega) (by omega) hpi (by omega)).2
  ·rw [y1F (t.drop i.toNat) i (by rw [List.length_drop]; omega)] at hpi
   rw [decide_eq_false hi, ya2 _ (by omega)]
   rfl
 refine Zy (step := Vc _ _) (fun x : (Int × List Int × List y0) ⊕ (Int × List Int × List y0) => (Sum.elim id id x).2.2.length * 1000 + ((Sum.elim id id x).2.2.length - (Sum.elim id id x).1.toNat)) (fun x => TS (Sum.elim id id x).2.2 ∧ (Sum.elim id id x).2.1.length = (Sum.elim id id x).2.2.length ∧ 0 ≤ (Sum.elim id id x).1 ∧ (Sum.elim id id x).1 ≤ ((Sum.elim id id x).2.2.length : Int) ∧ yD (Sum.elim id id x).2.2 0 = yD ((Sum.elim id id x).2.2.drop (Sum.elim id id x).1.toNat) (Sum.elim id id x).1)
  (fun x => some (jh (Sum.elim id id x).2.2.length (Sum.elim id id x).2.1 (Sum.elim id id x).2.2)) ?_ (Sum.inl (0, q, t)) ⟨h, hq, Int.le_refl _, by simp, rfl⟩ (by simp; omega)
 rintro again (⟨i, q, t⟩ | ⟨i, q, t⟩) ⟨h, hq, i0, i1, hpi⟩ hag
 ·exact key i q t (fun x => again (Sum.inr x)) (fun x => again (Sum.inl x)) h hq i0 i1 hpi fun i' q' t' a1 a2 a3 a4 a5 a6 => ⟨hag (Sum.inr (i', q', t')) ⟨a1, a2, a3, a4, a5⟩ a6, hag (Sum.inl (i', q', t')) ⟨a1, a2, a3, a4, a5⟩ a6⟩
 ·exact key i q t (fun x => again (Sum.inr x)) (fun x => again (Sum.inr x)) h hq i0 i1 hpi fun i' q' t' a1 a2 a3 a4 a5 a6 => ⟨hag (Sum.inr (i', q', t')) ⟨a1, a2, a3, a4, a5⟩ a6, hag (Sum.inr (i', q', t')) ⟨a1, a2, a3, a4, a5⟩ a6⟩
end Go.Proofs.YtjllpipmaejeoaaGreat.Pl
namespace Go.Proofs.YtjllpipmaejeoaaGreat.Pl
open Go.Proofs.YtjllpipmaejeoaaGreat.R Go.Proofs.YtjllpipmaejeoaaGreat.XW
theorem ydj : ∀ (n : List ya) (s : Int), 0 ≤ s → s + 60 * n.length ≤ 1000 → (∀ a ∈ n, List.length a ≤ 60) → n.foldl y1j s = s + kr qc n
 | [], s, _, _, _ => by simp [kr]
 | a :: n, s, h0, hb, ha => by
  have h1 := ha a (by simp)
  rw [List.length_cons] at hb
  have hw : y1j s a = s + (List.length a : Int) := w64 (by omega) (by omega)
  have e : qc a = (List.length a : Int) := rfl
  rw [List.foldl_cons, hw, ydj n _ (by omega) (by omega) fun b hm => ha b (by simp [hm]), Yj, e]
  omega
theorem wc {n : List ya} (h : YB n = true) : n.length ≤ 3 ∧ kr qc n ≤ 8 ∧ ∀ s ∈ n, ∀ k ∈ (show List y7 from s), zO k = true := by
 obtain ⟨h1, h2⟩ := y2j h
 have h3 := ydj n 0 (Int.le_refl _) (by omega) fun a ha => (y49 (h2 a ha)).1
 unfold YB at h
 simp only [Bool.and_eq_true, decide_eq_true_eq] at h
 exact ⟨h1, by omega, fun s hs => (y49 (h2 s hs)).2⟩
theorem y2p {n : List ya} (h : YB n = true) : NS n := ⟨by have := (wc h).1; omega, by have := (wc h).2.1; omega⟩
theorem y2q {q : List Int} {t : List y0} (h : z8 q t = true) : TS t := by
 obtain ⟨h1, h2, h3, h4⟩ := jR h
 exact ⟨by omega, fun n hn => y2p (h4 n hn)⟩
theorem ycc {q : List Int} {t : List y0} (h : z8 q t = true) : q.getD 0 0 = 0 := by
 unfold z8 at h
 simp only [Bool.and_eq_true, beq_iff_eq] at h
 exact h.2.2.1
theorem y3u (q : List Int) (sp : Int) (h : q.getD 0 0 ≤ sp) : ∀ n, 0 ≤ W7 q sp (n + 1)
 | 0 => by
  rw [W7, if_pos h]
  simp
 | n + 1 => by
  rw [W7]
  split
  ·omega
  ·exact y3u q sp h n
theorem yiC {k : y7} (h : zO k = true) : 0 ≤ jS k.1 k.2.1 := by
 unfold zO at h
 simp only [Bool.and_eq_true, zt] at h
 obtain ⟨h1, h2, _⟩ := h
 unfold jS
 rw [w64 (n := (64 : Int) * k.1) (by omega) (by omega), w64 (by omega) (by omega)]
 omega
theorem yiD {n : List ya} {k : y7} (hn : YB n = true) (hk : zO k = true) (h : (zn n k).2 = false) : 8 < (Ya n k).length := by
 unfold zn at h
 split at h
 ·cases h
 ·split at h
  ·assumption
  ·rename_i h8
   have hok : YB (yN (Ya n k)) = true := y2V (KF (w8 k (KG n))) (fun x hx => by
    rcases y0Q (y51 hx) with rfl | hx
    ·exact hk
    ·obtain ⟨c, hc, hx⟩ := y0l hx
     exact (wc hn).2.2 c hc x hx) (by omega)
   rw [if_pos hok] at h
   cases h
theorem y2Z {n : List ya} (k : y7) (h : NS n) (h2 : n.length ≤ 900 ∧ kr qc n ≤ 900) : NS (zn n k).1 := by
 have h1 := y2W n k
 have h3 := y2o n k
 have h4 := KD n
 unfold zn
 split
 ·exact ⟨by simp only; omega, by simp only; omega⟩
 ·split
  ·exact h
  ·split
   ·exact y0R (by omega)
   ·exact h
def z6 (q : List Int) (k : y7) : Nat := (W7 q (jS k.1 k.2.1) q.length).toNat
def W8 (l : List y7) : Nat := (l.length + 1) / 2
def yr (q : List Int) (t : List y0) (k : y7) : List Int × List y0 :=
 if (zn (t.getD (z6 q k) yg) k).2 = false then
  (yZ q (z6 q k) 1 [q.getD (z6 q k) 0, J7 ((Ya (t.getD (z6 q k) yg) k).getD (W8 (Ya (t.getD (z6 q k) yg) k)) yF)],
   yZ t (z6 q k) 1 [yN ((Ya (t.getD (z6 q k) yg) k).take (W8 (Ya (t.getD (z6 q k) yg) k))), yN ((Ya (t.getD (z6 q k) yg) k).drop (W8 (Ya (t.getD (z6 q k) yg) k)))])
 else if 0 < z6 q k ∧ (yz (zn (t.getD (z6 q k) yg) k).1).length = 0 then (yZ q (z6 q k) 1 [], yZ t (z6 q k) 1 [])
 else (q, t.set (z6 q k) (zn (t.getD (z6 q k) yg) k).1)
def yl (q : List Int) (t : List y0) (k : y7) : List Int × List y0 × Bool :=
 if (z8 q t && zO k) = true then
  (if z8 (jh (yr q t k).2.length (yr q t k).1 (yr q t k).2).1 (jh (yr q t k).2.length (yr q t k).1 (yr q t k).2).2 = true then
   ((jh (yr q t k).2.length (yr q t k).1 (yr q t k).2).1, (jh (yr q t k).2.length (yr q t k).1 (yr q t k).2).2, true) else (q, t, false))
 else (q, t, false)
theorem y8J : ∀ (m : Nat) (q : List Int) (t : List y0), TS t → TS (jh m q t).2
 | 0, _, _, h => h
 | m + 1, q, t, h => by
  rw [jh]
  split
  ·exact h
  ·rename_i hp
   exact y8J m _ _ (ycb h hp)
section
variable {q : List Int} {t : List y0} {k : y7} (h : z8 q t = true) (hk : zO k = true)
include h hk
theorem qV : (W7 q (jS k.1 k.2.1) q.length) = (z6 q k : Int) ∧ z6 q k < t.length ∧ z6 q k < q.length := by
 obtain ⟨h1, h2, h3, h4⟩ := jR h
 have h5 := y3u q (jS k.1 k.2.1) (by rw [ycc h]; exact yiC hk) (q.length - 1)
 rw [show q.length - 1 + 1 = q.length by omega] at h5
 have h6 := y6B q (jS k.1 k.2.1) q.length
 unfold z6
 omega
theorem y0q : YB (t.getD (z6 q k) yg) = true := by
 have h1 := (qV h hk).2.1
 rw [yE _ _ _ h1]
 exact (jR h).2.2.2 _ (List.getElem_mem _)
theorem y8K (hm : (zn (t.getD (z6 q k) yg) k).2 = false) : W8 (Ya (t.getD (z6 q k) yg) k) < (Ya (t.getD (z6 q k) yg) k).length ∧ (Ya (t.getD (z6 q k) yg) k).length ≤ 9 := by
 have h1 := yiD (y0q h hk) hk hm
 have h2 := y2o (t.getD (z6 q k) yg) k
 have h3 := KD (t.getD (z6 q k) yg)
 have h4 := (wc (y0q h hk)).2.1
 unfold W8
 omega
theorem y6D : TS (yr q t k).2 ∧ (yr q t k).1.length = (yr q t k).2.length := by
 obtain ⟨h1, h2, h3, h4⟩ := jR h
 obtain ⟨g0, g1, g2⟩ := qV h hk
 have hT := y2q h
 have hn := wc (y0q h hk)
 unfold yr
 split
 ·rename_i hm
  have hh := y8K h hk hm
  refine ⟨hT.splice (by rw [YD _ _ _ _ (by omega)]; simp only [List.length_cons, List.length_nil]; omega) fun n hn => ?_, by rw [YD _ _ _ _ (by omega), YD _ _ _ _ (by omega)]; simp only [List.length_cons, List.length_nil]; omega⟩
  simp only [List.mem_cons, List.mem_nil_iff, or_false] at hn
  rcases hn with rfl | rfl
  ·exact y0R (by rw [List.length_take]; omega)
  ·exact y0R (by rw [List.length_drop]; omega)
 ·split
  ·refine ⟨hT.splice (by rw [YD _ _ _ _ (by omega)]; simp only [List.length_nil]; omega) (fun n hn => by cases hn), by rw [YD _ _ _ _ (by omega), YD _ _ _ _ (by omega)]; simp only [List.length_nil]; omega⟩
  ·refine ⟨⟨by simp only [List.length_set]; omega, fun n hn2 => (List.mem_or_eq_of_mem_set hn2).elim (hT.node n) fun e => e ▸ y2Z k (y2p (y0q h hk)) (by omega)⟩, by simp only [List.length_set]; omega⟩
end
theorem JL (q : List Int) (t : List y0) (a b c d e : Int) (hT : TOk t) (hQ : ∀ n ∈ t, y3P n) (hq : q.length ≤ 1048576) : Y2 (q, t, a, b, c, d, e) = some (yl q t (a, b, c, d, e)) := by
 unfold Y2 yl
 simp only [VX q t hq hT.len hQ, VT q t hT, y2f, Option.bind_some]
 cases h : z8 q t with
 | false => rfl
 | true =>
  cases hk : zO (a, b, c, d, e) with
  | false => rfl
  | true =>
   obtain ⟨h1, h2, h3, h4⟩ := jR h
   obtain ⟨g0, g1, g2⟩ := qV h hk
   have hNS := y2p (y0q h hk)
   have hnf := wc (y0q h hk)
   have hP := y6D h hk
   have hJ := y8J (yr q t (a, b, c, d, e)).2.length (yr q t (a, b, c, d, e)).1 (yr q t (a, b, c, d, e)).2 hP.1
   have ern : yf t (z6 q (a, b, c, d, e) : Int) = t.getD (z6 q (a, b, c, d, e)) yg := by
    show t.getD ((z6 q (a, b, c, d, e) : Int)).toNat yg = _
    rw [Int.toNat_natCast]
   have erq : zu q (z6 q (a, b, c, d, e) : Int) = q.getD (z6 q (a, b, c, d, e)) 0 := by
    show q.getD ((z6 q (a, b, c, d, e) : Int)).toNat 0 = _
    rw [Int.toNat_natCast]
   have hfin : ∀ p : List Int × List y0, p = yr q t (a, b, c, d, e) → (Option.bind (Zl (p.1, p.2)) fun r15 => Option.bind (Yt (r15.1, r15.2)) fun r16 => bif (!r16) then some (q, t, false) else some (r15.1, r15.2, true)) = some (if z8 (jh (yr q t (a, b, c, d, e)).2.length (yr q t (a, b, c, d, e)).1 (yr q t (a, b, c, d, e)).2).1 (jh (yr q t (a, b, c, d, e)).2.length (yr q t (a, b, c, d, e)).1 (yr q t (a, b, c, d, e)).2).2 = true then ((jh (yr q t (a, b, c, d, e)).2.length (yr q t (a, b, c, d, e)).1 (yr q t (a, b, c, d, e)).2).1, (jh (yr q t (a, b, c, d, e)).2.length (yr q t (a, b, c, d, e)).1 (yr q t (a, b, c, d, e)).2).2, true) else (q, t, false)) := by
    rintro p rfl
    simp only [ya3 _ _ hP.1 hP.2, Option.bind_some, VT _ _ hJ.ok]
    cases z8 (jh (yr q t (a, b, c, d, e)).2.length (yr q t (a, b, c, d, e)).1 (yr q t (a, b, c, d, e)).2).1 (jh (yr q t (a, b, c, d, e)).2.length (yr q t (a, b, c, d, e)).1 (yr q t (a, b, c, d, e)).2).2 <;> rfl
   simp only [Bool.not_true, cond_false, Option.bind_some, y0n q t a b hq, show W7 q (jS a b) q.length = (z6 q (a, b, c, d, e) : Int) from g0, ern, erq, Bool.and_self, if_true]
   rw [if_pos (by omega), if_pos (by omega), y55 _ a b c d e hNS]
   simp only [Option.bind_some]
   rw [if_pos (by omega), if_pos (by omega), qU q t _ _ _ (by omega) (by omega) (by omega) (by omega) (by omega) (by simp) (by simp)]
   simp only [Option.bind_some, Int.toNat_natCast]
   cases hm : (zn (t.getD (z6 q (a, b, c, d, e)) yg) (a, b, c, d, e)).2 with
   | false =>
    have hh := y8K h hk hm
    have hkn := (hNS.keys)
    have hsl := Wk (yz (t.getD (z6 q (a, b, c, d, e)) yg)) (a, b, c, d, e)
    have e1 : Y4 (Y0 (yz (t.getD (z6 q (a, b, c, d, e)) yg)) (a, b, c, d, e)) = some (Ya (t.getD (z6 q (a, b, c, d, e)) yg) (a, b, c, d, e)) := y0h _ (by omega)
    have hput := yr.eq_1 q t (a, b, c, d, e)
    rw [if_pos hm] at hput
    generalize hW : Ya (t.getD (z6 q (a, b, c, d, e)) yg) (a, b, c, d, e) = W at hh e1 hput
    have hwr : Go.IntKind.wrap .i64 (Int.tdiv (Go.IntKind.wrap .i64 (((List.length W : Nat) : Int) + (1 : Int))) (2 : Int)) = (W8 W : Int) := by
     rw [w64 (n := ((List.length W : Nat) : Int) + 1) (by omega) (by omega), Int.tdiv_eq_ediv_of_nonneg (by omega)]
     unfold W8
     rw [w64 (by omega) (by omega)]
     omega
    simp only [Bool.not_false, cond_true, Ze _ (Nat.le_trans hNS.len (by decide)) (Int.le_trans hNS.sum (by decide)), Kn _ a b c d e (show (yz (t.getD (z6 q (a, b, c, d, e)) yg)).length ≤ 1073741824 by omega), e1, Option.bind_some, hwr, Int.toNat_natCast]
    rw [if_pos (by omega), if_pos (by omega), if_pos (by omega), if_pos (by omega), if_pos (by omega), if_pos (by omega)]
    have e2 : JQ ((y6 W (W8 W : Int)).1, (y6 W (W8 W : Int)).2.1, (y6 W (W8 W : Int)).2.2.1, (y6 W (W8 W : Int)).2.2.2.1, (y6 W (W8 W : Int)).2.2.2.2) = some (J7 (W.getD (W8 W) yF)) := by
     have e3 : y6 W (W8 W : Int) = W.getD (W8 W) yF := by
      show W.getD ((W8 W : Int)).toNat yF = _
      rw [Int.toNat_natCast]
     rw [e3]
     rfl
    rw [e2]
    simp only [Option.bind_some]
    rw [if_pos (by omega), if_pos (by omega), if_pos (by omega), JK _ (by simp only [List.length_drop, List.length_take]; omega)]
    simp only [Option.bind_some]
    rw [if_pos (by omega), if_pos (by omega), if_pos (by omega), JK _ (by simp only [List.length_drop, List.length_take]; omega)]
    simp only [Option.bind_some]
    rw [qU q t _ _ _ (by omega) (by omega) (by omega) (by omega) (by omega) (by simp) (by simp)]
    simp only [Option.bind_some, Int.toNat_natCast, List.take_length]
    exact hfin _ hput.symm
   | true =>
    have hP2 := y2Z (a, b, c, d, e) hNS (by omega)
    have hnm : ¬ (zn (t.getD (z6 q (a, b, c, d, e)) yg) (a, b, c, d, e)).2 = false := by rw [hm]; simp
    simp only [Bool.not_true, cond_false, Ze _ (Nat.le_trans hP2.len (by decide)) (Int.le_trans hP2.sum (by decide)), Option.bind_some]
    have hput := yr.eq_1 q t (a, b, c, d, e)
    rw [if_neg hnm] at hput
    have h3 : (bif decide ((z6 q (a, b, c, d, e) : Int) > 0) then some (((List.length (yz (zn (t.getD (z6 q (a, b, c, d, e)) yg) (a, b, c, d, e)).1) : Nat) : Int) == 0) else some false) = some (decide (0 < z6 q (a, b, c, d, e) ∧ (yz (zn (t.getD (z6 q (a, b, c, d, e)) yg) (a, b, c, d, e)).1).length = 0)) := by
     by_cases i0 : 0 < z6 q (a, b, c, d, e)
     ·rw [decide_eq_true (show (z6 q (a, b, c, d, e) : Int) > 0 by omega), cond_true]
      congr 1
      by_cases i1 : (yz (zn (t.getD (z6 q (a, b, c, d, e)) yg) (a, b, c, d, e)).1).length = 0
      ·rw [decide_eq_true ⟨i0, i1⟩]
       exact beq_iff_eq.2 (by omega)
      ·rw [decide_eq_false (fun hh => i1 hh.2)]
       exact beq_eq_false_iff_ne.2 (by omega)
     ·rw [decide_eq_false (show ¬ (z6 q (a, b, c, d, e) : Int) > 0 by omega), decide_eq_false (fun hh => i0 hh.1)]
      rfl
    rw [h3]
    simp only [Option.bind_some]
    by_cases hz : 0 < z6 q (a, b, c, d, e) ∧ (yz (zn (t.getD (z6 q (a, b, c, d, e)) yg) (a, b, c, d, e)).1).length = 0
    ·rw [if_pos hz] at hput
     rw [decide_eq_true hz, cond_true, qU q t _ _ _ (by omega) (by omega) (by omega) (by omega) (by omega) (by simp) (by simp)]
     simp only [Option.bind_some, Int.toNat_natCast]
     exact hfin _ hput.symm
    ·rw [if_neg hz] at hput
     rw [decide_eq_false hz, cond_false]
     rw [y0S q _ _ (by omega), y0S t _ _ (by omega)]
     refine hfin (q.set (z6 q (a, b, c, d, e)) (q.getD (z6 q (a, b, c, d, e)) 0), t.set (z6 q (a, b, c, d, e)) (zn (t.getD (z6 q (a, b, c, d, e)) yg) (a, b, c, d, e)).1) ?_
     rw [hput, yE _ _ _ (by omega), List.set_getElem_self]
theorem Vh (q : List Int) (t : List y0) (a b c d e : Int) (hT : TOk t) (hQ : ∀ n ∈ t, y3P n) (hq : q.length ≤ 1048576) : ZJ (q, t, a, b, c, d, e) = some (yl q t (a, b, c, d, e)) := by
 unfold ZJ yl
 simp only [Qo q t hq hT.len hQ, VU q t hT, y2g, Option.bind_some]
 cases h : z8 q t with
 | false => rfl
 | true =>
  cases hk : zO (a, b, c, d, e) with
  | false => rfl
  | true =>
   obtain ⟨h1, h2, h3, h4⟩ := jR h
   obtain ⟨g0, g1, g2⟩ := qV h hk
   have hNS := y2p (y0q h hk)
   have hnf := wc (y0q h hk)
   have hP := y6D h hk
   have hJ := y8J (yr q t (a, b, c, d, e)).2.length (yr q t (a, b, c, d, e)).1 (yr q t (a, b, c, d, e)).2 hP.1
   have ern : yf t (z6 q (a, b, c, d, e) : Int) = t.getD (z6 q (a, b, c, d, e)) yg := by
    show t.getD ((z6 q (a, b, c, d, e) : Int)).toNat yg = _
    rw [Int.toNat_natCast]
   have erq : zu q (z6 q (a, b, c, d, e) : Int) = q.getD (z6 q (a, b, c, d, e)) 0 := by
    show q.getD ((z6 q (a, b, c, d, e) : Int)).toNat 0 = _
    rw [Int.toNat_natCast]
   have hfin : ∀ p : List Int × List y0, p = yr q t (a, b, c, d, e) → (Option.bind (Zw (p.1, p.2)) fun r15 => Option.bind (Yu (r15.1, r15.2)) fun r16 => bif (!r16) then some (q, t, false) else some (r15.1, r15.2, true)) = some (if z8 (jh (yr q t (a, b, c, d, e)).2.length (yr q t (a, b, c, d, e)).1 (yr q t (a, b, c, d, e)).2).1 (jh (yr q t (a, b, c, d, e)).2.length (yr q t (a, b, c, d, e)).1 (yr q t (a, b, c, d, e)).2).2 = true then ((jh (yr q t (a, b, c, d, e)).2.length (yr q t (a, b, c, d, e)).1 (yr q t (a, b, c, d, e)).2).1, (jh (yr q t (a, b, c, d, e)).2.length (yr q t (a, b, c, d, e)).1 (yr q t (a, b, c, d, e)).2).2, true) else (q, t, false)) := by
    rintro p rfl
    simp only [y5S _ _ hP.1 hP.2, Option.bind_some, VU _ _ hJ.ok]
    cases z8 (jh (yr q t (a, b, c, d, e)).2.length (yr q t (a, b, c, d, e)).1 (yr q t (a, b, c, d, e)).2).1 (jh (yr q t (a, b, c, d, e)).2.length (yr q t (a, b, c, d, e)).1 (yr q t (a, b, c, d, e)).2).2 <;> rfl
   simp only [Bool.not_true, cond_false, Option.bind_some, y0o q t a b hq, show W7 q (jS a b) q.length = (z6 q (a, b, c, d, e) : Int) from g0, ern, erq, Bool.and_self, if_true]
   rw [if_pos (by omega), if_pos (by omega), y56 _ a b c d e hNS]
   simp only [Option.bind_some, Int.toNat_natCast]
   cases hm : (zn (t.getD (z6 q (a, b, c, d, e)) yg) (a, b, c, d, e)).2 with
   | false =>
    have hh := y8K h hk hm
    have e1 : zU (t.getD (z6 q (a, b, c, d, e)) yg, a, b, c, d, e) = some (Ya (t.getD (z6 q (a, b, c, d, e)) yg) (a, b, c, d, e)) := Qq _ a b c d e hNS
    have hput := yr.eq_1 q t (a, b, c, d, e)
    rw [if_pos hm] at hput
    generalize hW : Ya (t.getD (z6 q (a, b, c, d, e)) yg) (a, b, c, d, e) = W at hh e1 hput
    have hwr : Go.IntKind.wrap .i64 (Int.tdiv (Go.IntKind.wrap .i64 (((List.length W : Nat) : Int) + (1 : Int))) (2 : Int)) = (W8 W : Int) := by
     rw [w64 (n := ((List.length W : Nat) : Int) + 1) (by omega) (by omega), Int.tdiv_eq_ediv_of_nonneg (by omega)]
     unfold W8
     rw [w64 (by omega) (by omega)]
     omega
    simp only [Bool.not_false, cond_true, e1, Option.bind_some, hwr, Int.toNat_natCast]
    rw [if_pos (by omega), if_pos (by omega), if_pos (by omega), if_pos (by omega), if_pos (by omega), if_pos (by omega)]
    have e2 : Zt ((y6 W (W8 W : Int)).1, (y6 W (W8 W : Int)).2.1) = some (J7 (W.getD (W8 W) yF)) := by
     have e3 : y6 W (W8 W : Int) = W.getD (W8 W) yF := by
      show W.getD ((W8 W : Int)).toNat yF = _
      rw [Int.toNat_natCast]
     rw [e3]
     rfl
    rw [e2]
    simp only [Option.bind_some]
    rw [if_pos (by omega), if_pos (by omega), if_pos (by omega), kA _ (by simp only [List.length_drop, List.length_take]; omega)]
    simp only [Option.bind_some]
    rw [if_pos (by omega), if_pos (by omega), if_pos (by omega), kA _ (by simp only [List.length_drop, List.length_take]; omega)]
    simp only [Option.bind_some]
    rw [v6 q t _ 1 _ _ (by omega) (by decide) (by omega) (by omega) (by omega) (by omega) (by simp) (by simp)]
    simp only [Option.bind_some, Int.toNat_natCast, List.take_length]
    exact hfin _ hput.symm
   | true =>
    have hP2 := y2Z (a, b, c, d, e) hNS (by omega)
    have hnm : ¬ (zn (t.getD (z6 q (a, b, c, d, e)) yg) (a, b, c, d, e)).2 = false := by rw [hm]; simp
    simp only [Bool.not_true, cond_false, jP _ (Nat.le_trans hP2.len (by decide)) (Int.le_trans hP2.sum (by decide)), Option.bind_some]
    have hput := yr.eq_1 q t (a, b, c, d, e)
    rw [if_neg hnm] at hput
    have h3 : (bif decide ((z6 q (a, b, c, d, e) : Int) > 0) then some (((List.length (yz (zn (t.getD (z6 q (a, b, c, d, e)) yg) (a, b, c, d, e)).1) : Nat) : Int) == 0) else some false) = some (decide (0 < z6 q (a, b, c, d, e) ∧ (yz (zn (t.getD (z6 q (a, b, c, d, e)) yg) (a, b, c, d, e)).1).length = 0)) := by
     by_cases i0 : 0 < z6 q (a, b, c, d, e)
     ·rw [decide_eq_true (show (z6 q (a, b, c, d, e) : Int) > 0 by omega), cond_true]
      congr 1
      by_cases i1 : (yz (zn (t.getD (z6 q (a, b, c, d, e)) yg) (a, b, c, d, e)).1).length = 0
      ·rw [decide_eq_true ⟨i0, i1⟩]
       exact beq_iff_eq.2 (by omega)
      ·rw [decide_eq_false (fun hh => i1 hh.2)]
       exact beq_eq_false_iff_ne.2 (by omega)
     ·rw [decide_eq_false (show ¬ (z6 q (a, b, c, d, e) : Int) > 0 by omega), decide_eq_false (fun hh => i0 hh.1)]
      rfl
    rw [h3]
    simp only [Option.bind_some]
    by_cases hz : 0 < z6 q (a, b, c, d, e) ∧ (yz (zn (t.getD (z6 q (a, b, c, d, e)) yg) (a, b, c, d, e)).1).length = 0
    ·rw [if_pos hz] at hput
     rw [decide_eq_true hz, cond_true, v6 q t _ 1 _ _ (by omega) (by decide) (by omega) (by omega) (by omega) (by omega) (by simp) (by simp)]
     simp only [Option.bind_some, Int.toNat_natCast]
     exact hfin _ hput.symm
    ·rw [if_neg hz] at hput
     rw [decide_eq_false hz, cond_false, if_pos (by omega), if_pos (by omega)]
     exact hfin _ hput.symm
end Go.Proofs.YtjllpipmaejeoaaGreat.Pl
namespace Go.Proofs.YtjllpipmaejeoaaGreat.Pl
open Go.Proofs.YtjllpipmaejeoaaGreat.R Go.Proofs.YtjllpipmaejeoaaGreat.XW
theorem y0r (a : y7) : W4 a a = false := by
 cases h : W4 a a with
 | false => rfl
 | true =>
  rw [KE] at h
  omega
theorem y30 : ∀ {a b : List y7}, srt a → srt b → (∀ x, x ∈ a ↔ x ∈ b) → a = b
 | [], [], _, _, _ => rfl
 | [], y :: b, _, _, h => absurd ((h y).2 (by simp)) (by simp)
 | x :: a, [], _, _, h => absurd ((h x).1 (by simp)) (by simp)
 | x :: a, y :: b, ha, hb, h => by
  obtain ⟨ha1, ha2⟩ := List.pairwise_cons.1 ha
  obtain ⟨hb1, hb2⟩ := List.pairwise_cons.1 hb
  have hxy : x = y := by
   rcases List.mem_cons.1 ((h x).1 (by simp)) with e | h1
   ·exact e
   ·rcases List.mem_cons.1 ((h y).2 (by simp)) with e | h2
    ·exact e.symm
    ·have := y1E (hb1 x h1) (ha1 y h2)
     rw [y0r] at this
     cases this
  subst hxy
  rw [y30 ha2 hb2 fun z => ?_]
  constructor
  ·intro hz
   rcases List.mem_cons.1 ((h z).1 (by simp [hz])) with rfl | h1
   ·have := ha1 z hz
    rw [y0r] at this
    cases this
   ·exact h1
  ·intro hz
   rcases List.mem_cons.1 ((h z).2 (by simp [hz])) with rfl | h1
   ·have := hb1 z hz
    rw [y0r] at this
    cases this
   ·exact h1
theorem VY {c k : y7} (h : W4 c k = true) : Y1 c k = false := by
 cases hs : Y1 c k with
 | false => rfl
 | true =>
  rw [KE] at h
  rw [zw] at hs
  omega
theorem VZ {k x : y7} : ∀ {l : List y7}, x ∈ Y0 l k ↔ x = k ∨ (x ∈ l ∧ Y1 x k = false) := by
 intro l
 rw [Kb]
 induction l with
 | nil => simp [y92]
 | cons c r ih =>
  rw [y92]
  split
  ·rename_i hl
   have := VY hl
   simp only [List.mem_cons, ih]
   constructor
   ·rintro (rfl | rfl | ⟨h1, h2⟩)
    ·exact .inr ⟨.inl rfl, this⟩
    ·exact .inl rfl
    ·exact .inr ⟨.inr h1, h2⟩
   ·rintro (rfl | ⟨rfl | h1, h2⟩)
    ·exact .inr (.inl rfl)
    ·exact .inl rfl
    ·exact .inr (.inr ⟨h1, h2⟩)
  ·simp only [List.mem_cons, List.mem_filter, Bool.not_eq_true']
theorem y0s {a b : y7} : Y1 a b = Y1 b a := by
 cases h : Y1 b a with
 | true => rw [zw] at h ⊢; exact ⟨h.1.symm, h.2.symm⟩
 | false =>
  cases h2 : Y1 a b with
  | false => rfl
  | true =>
   rw [zw] at h2
   rw [zw.2 ⟨h2.1.symm, h2.2.symm⟩] at h
   cases h
theorem yey {a b c : y7} (h1 : Y1 a b = true) (h2 : Y1 b c = true) : Y1 a c = true := by
 rw [zw] at *
 exact ⟨h1.1.trans h2.1, h1.2.trans h2.2⟩
theorem KH {x : y7} : ∀ {b a : List y7}, srt b → (x ∈ Z8 a b ↔ x ∈ b ∨ (x ∈ a ∧ ∀ y ∈ b, Y1 x y = false))
 | [], a, _ => by simp [Z8]
 | c :: b, a, h => by
  obtain ⟨h1, h2⟩ := List.pairwise_cons.1 h
  have := KH (x := x) (b := b) (a := Y0 a c) h2
  rw [show Z8 a (c :: b) = Z8 (Y0 a c) b from rfl, this, VZ]
  constructor
  ·rintro (h3 | ⟨rfl | ⟨h3, h4⟩, h5⟩)
   ·exact .inl (by simp [h3])
   ·exact .inl (by simp)
   ·exact .inr ⟨h3, fun y hy => by
     rcases List.mem_cons.1 hy with rfl | hy
     ·exact h4
     ·exact h5 y hy⟩
  ·rintro (h3 | ⟨h3, h4⟩)
   ·rcases List.mem_cons.1 h3 with rfl | h3
    ·exact .inr ⟨.inl rfl, fun y hy => VY (h1 y hy)⟩
    ·exact .inl h3
   ·exact .inr ⟨.inr ⟨h3, h4 c (by simp)⟩, fun y hy => h4 y (by simp [hy])⟩
theorem ygy {a b : List y7} (ha : srt a) (hb : srt b) (k : y7) : Z8 a (Y0 b k) = Y0 (Z8 a b) k := by
 refine y30 (qA _ _ ha) (w8 k (qA _ _ ha)) fun x => ?_
 rw [KH (w8 k hb), VZ, VZ, KH hb]
 constructor
 ·rintro ((rfl | ⟨h1, h2⟩) | ⟨h1, h2⟩)
  ·exact .inl rfl
  ·exact .inr ⟨.inl h1, h2⟩
  ·have hk := h2 k (VZ.2 (.inl rfl))
   refine .inr ⟨.inr ⟨h1, fun y hy => ?_⟩, hk⟩
   cases hy2 : Y1 y k with
   | false => exact h2 y (VZ.2 (.inr ⟨hy, hy2⟩))
   | true =>
    cases hxy : Y1 x y with
    | false => rfl
    | true => rw [yey hxy hy2] at hk; cases hk
 ·rintro (rfl | ⟨h1 | ⟨h1, h2⟩, h3⟩)
  ·exact .inl (.inl rfl)
  ·exact .inl (.inr ⟨h1, h3⟩)
  ·refine .inr ⟨h1, fun y hy => ?_⟩
   rcases VZ.1 hy with rfl | ⟨hy, _⟩
   ·exact h3
   ·exact h2 y hy
theorem wd {x : y7} {l : List y7} : x ∈ W5 l ↔ x ∈ l ∧ x.2.2.1 ≠ 0 := by
 rw [qT, List.mem_filter]
 simp
theorem yiE {l : List y7} (h : srt l) (k : y7) : W5 (Y0 (W5 l) k) = W5 (Y0 l k) := by
 refine y30 (KF (w8 k (KF h))) (KF (w8 k h)) fun x => ?_
 rw [wd, wd, VZ, VZ, wd]
 constructor
 ·rintro ⟨rfl | ⟨⟨h1, h2⟩, h3⟩, h4⟩
  ·exact ⟨.inl rfl, h4⟩
  ·exact ⟨.inr ⟨h1, h3⟩, h4⟩
 ·rintro ⟨rfl | ⟨h1, h3⟩, h4⟩
  ·exact ⟨.inl rfl, h4⟩
  ·exact ⟨.inr ⟨⟨h1, h4⟩, h3⟩, h4⟩
theorem y58 (l : List y7) (h : ∀ x ∈ l, x.2.2.1 ≠ 0) : W5 l = l := by
 rw [qT, List.filter_eq_self]
 intro x hx
 simpa using h x hx
theorem ydk (a b : List y7) : W5 (a ++ b) = W5 a ++ W5 b := by
 rw [qT, qT, qT, List.filter_append]
theorem Vi {n : List ya} {x : y7} (h : x ∈ yz n) : x.2.2.1 ≠ 0 := (wd.1 h).2
theorem ygz (k : y7) {C : List y7} (hC : ∀ x ∈ C, W4 k x = true) : ∀ {A B : List y7}, (∀ x ∈ A, W4 x k = true) → Y0 (A ++ B ++ C) k = A ++ Y0 B k ++ C
 | a :: A, B, hA => by
  have := ygz k hC (A := A) (B := B) fun x hx => hA x (by simp [hx])
  rw [Kb] at *
  rw [List.cons_append, List.cons_append, y92, if_pos (hA a (by simp)), this, Kb]
  rfl
 | [], B, _ => by
  rw [Kb, Kb, List.nil_append, List.nil_append]
  induction B with
  | nil =>
   cases C with
   | nil => rfl
   | cons c C =>
    rw [List.nil_append, show y92 ([] : List y7) k = [k] from rfl, y92, if_neg, List.filter_eq_self.2]
    ·rfl
    ·intro x hx
     rw [y0s, VY (hC x hx)]
     rfl
    ·intro h
     have := y1E h (hC c (by simp))
     rw [y0r] at this
     cases this
  | cons b B ih =>
   rw [List.cons_append, y92, y92]
   split
   ·rw [ih]
    rfl
   ·rw [← List.cons_append, List.filter_append, List.cons_append]
    congr 2
    rw [List.filter_eq_self]
    intro x hx
    rw [y0s, VY (hC x hx)]
    rfl
def yho (n : List ya) : List y7 := n.foldl Z8 []
theorem ydl (n : List ya) : srt (yho n) := y52 n [] List.Pairwise.nil
theorem ydm (n : List ya) : yz n = W5 (yho n) := rfl
theorem ya4 {s : List y7} (h : Wl s = true) : srt s := by
 unfold Wl at h
 simp only [Bool.and_eq_true, Bool.not_eq_true', decide_eq_true_eq] at h
 have step : ∀ j : Nat, (hj : j + 1 < s.length) → W4 s[j] s[j + 1] = true := fun j hj => by
  have := J6 yF s 0 h.2.1 (j + 1) hj
  unfold wj at this
  rw [show ((0 : Int) + ((j + 1 : Nat) : Int) - 1).toNat = j by omega, yE _ _ _ (by omega), yE _ _ _ hj] at this
  simp only [Bool.and_eq_false_iff, Bool.not_eq_false', decide_eq_false_iff_not] at this
  rcases this with h1 | h1
  ·omega
  ·exact h1
 refine List.pairwise_iff_getElem.2 fun i j hi hj hij => ?_
 obtain ⟨d, rfl⟩ : ∃ d, j = i + 1 + d := ⟨j - (i + 1), by omega⟩
 induction d with
 | zero => exact step i hj
 | succ d ih => exact y1E (ih (by omega) (by omega)) (step (i + 1 + d) hj)
theorem ZB {l : List y7} (h : srt l) (hl : ∀ x ∈ l, x.2.2.1 ≠ 0) : yz (yN l) = l := by
 unfold yN
 split
 ·rename_i h0
  rw [List.length_eq_zero_iff.1 h0]
  rfl
 ·show W5 (Z8 [] l) = l
  rw [show Z8 [] l = l from y30 (qA l [] List.Pairwise.nil) h fun x => by rw [KH h]; simp]
  exact y58 l hl
theorem y4b (n : List ya) (s : ya) : yho (n ++ [s]) = Z8 (yho n) s := by
 unfold yho
 rw [List.foldl_append]
 rfl
theorem ycd {n : List ya} (k : y7) (hn : ∀ s ∈ n, Wl s = true) : yz (JJ n k) = Ya n k := by
 rw [ydm]
 unfold Ya
 rw [ydm, yiE (ydl n)]
 congr 1
 unfold JJ
 split
 ·rename_i h
  obtain ⟨n0, hn0⟩ : ∃ n0 : List ya, n = n0 ++ [w9 n] := by
   refine ⟨n.take (n.length - 1), ?_⟩
   unfold w9
   rw [yE _ _ _ (by omega)]
   have e := List.take_append_drop (n.length - 1) n
   rw [List.drop_eq_getElem_cons (by omega), List.drop_eq_nil_of_le (by omega)] at e
   exact e.symm
  have hlast := ya4 (hn _ (y2n h.1))
  have e1 : n.set (n.length - 1) (Y0 (w9 n) k) = n0 ++ [Y0 (w9 n) k] := by
   generalize w9 n = L at *
   rw [hn0, List.length_append, List.set_append_right _ _ (by simp)]
   simp
  rw [e1, y4b, ygy (ydl n0) hlast k, ← y4b, ← hn0]
 ·rw [y4b]
  rfl
theorem y4c (n : List ya) (k : y7) : srt (Ya n k) := KF (w8 k (KG n))
theorem y2r {n : List ya} {k x : y7} (h : x ∈ Ya n k) : x.2.2.1 ≠ 0 := (wd.1 h).2
theorem ya5 {n : List ya} (k : y7) (hn : ∀ s ∈ n, Wl s = true) (h : (zn n k).2 = true) : yz (zn n k).1 = Ya n k := by
 unfold zn at h ⊢
 split
 ·exact ycd k hn
 ·rename_i h1
  rw [if_neg h1] at h
  split
  ·rename_i h2
   rw [if_pos h2] at h
   cases h
  ·rename_i h2
   rw [if_neg h2] at h
   split
   ·exact ZB (y4c n k) fun x hx => y2r hx
   ·rename_i h3
    rw [if_neg h3] at h
    cases h
theorem yyX (t : List y0) : ∀ s : List y7, t.foldl kt s = s ++ t.flatMap yz := by
 induction t with
 | nil => intro s; simp
 | cons n t ih =>
  intro s
  rw [List.foldl_cons, ih]
  simp [kt]
theorem KI (t : List y0) : yb t = t.flatMap yz := by
 unfold yb
 rw [yyX]
 rfl
theorem YE (a b : List y0) : yb (a ++ b) = yb a ++ yb b := by
 rw [KI, KI, KI, List.flatMap_append]
theorem Kr (n : y0) : yb [n] = yz n := by
 rw [KI]
 simp
theorem y4d {t : List y0} {x : y7} : x ∈ yb t ↔ ∃ n ∈ t, x ∈ yz n := by
 rw [KI, List.mem_flatMap]
theorem y0t {t : List y0} {x : y7} (h : x ∈ yb t) : x.2.2.1 ≠ 0 := by
 obtain ⟨n, _, hx⟩ := y4d.1 h
 exact Vi hx
theorem qB {A : Type} (d : A) (t : List A) (i : Nat) (h : i < t.length) : t = t.take i ++ ([t.getD i d] ++ t.drop (i + 1)) := by
 have e := List.take_append_drop i t
 rw [List.drop_eq_getElem_cons h] at e
 rw [yE _ _ _ h]
 exact e.symm
theorem y59 : ∀ (m : Nat) (q : List Int) (t : List y0), srt (yb t) → yb (jh m q t).2 = yb t
 | 0, _, _, _ => rfl
 | m + 1, q, t, h => by
  rw [jh]
  split
  ·rfl
  ·rename_i hp
   have hs : 0 ≤ yD t 0 ∧ yD t 0 + 2 ≤ (t.length : Int) := by
    rcases y2X t 0 with h1 | ⟨h1, h2, _⟩
    ·omega
    ·exact ⟨h1, by omega⟩
   have e1 := qB yg t (yD t 0).toNat (by omega)
   have e2 := qB yg (t.drop ((yD t 0).toNat + 1)) 0 (by rw [List.length_drop]; omega)
   have e3 : (t.drop ((yD t 0).toNat + 1)).getD 0 yg = t.getD (yD t 0 + 1).toNat yg := by
    rw [List.getD_eq_getElem?_getD, List.getD_eq_getElem?_getD, List.getElem?_drop, show (yD t 0).toNat + 1 + 0 = (yD t 0 + 1).toNat by omega]
   rw [e3, List.take_zero, List.nil_append, List.drop_drop] at e2
   have hk : yb t = yb (t.take (yD t 0).toNat) ++ ((yz (t.getD (yD t 0).toNat yg) ++ yz (t.getD (yD t 0 + 1).toNat yg)) ++ yb (t.drop ((yD t 0).toNat + 2))) := by
    conv => lhs; rw [e1]
    rw [e2, YE, YE, YE, Kr, Kr, List.append_assoc]
   have hx : srt (yz (t.getD (yD t 0).toNat yg) ++ yz (t.getD (yD t 0 + 1).toNat yg)) := by
    rw [hk] at h
    exact (List.pairwise_append.1 (List.pairwise_append.1 h).2.1).1
   have ht : yb (yZ t (yD t 0).toNat 2 [yN (yz (t.getD (yD t 0).toNat yg) ++ yz (t.getD (yD t 0 + 1).toNat yg))]) = yb t := by
    unfold yZ
    rw [YE, YE, Kr, ZB hx (fun x hx => (List.mem_append.1 hx).elim Vi Vi), hk, List.append_assoc]
   rw [y59 m _ _ (by rw [ht]; exact h), ht]
end Go.Proofs.YtjllpipmaejeoaaGreat.Pl
namespace Go.Proofs.YtjllpipmaejeoaaGreat.Pl
open Go.Proofs.YtjllpipmaejeoaaGreat.R Go.Proofs.YtjllpipmaejeoaaGreat.XW
theorem Wn {A : Type} {p : A → Bool} : ∀ (l : List A) (i : Int), 0 ≤ i → zF p l i < 0 → ∀ a ∈ l, p a = false
 | [], _, _, _, a, ha => by simp at ha
 | b :: l, i, hi, h, a, ha => by
  rw [zF] at h
  split at h
  ·omega
  ·rename_i hb
   rcases List.mem_cons.1 ha with rfl | ha
   ·simpa using hb
   ·exact Wn l (i + 1) (by omega) h a ha
theorem y8L {k : y7} (h : zO k = true) : J7 k = 64 * k.1 + k.2.1 ∧ 0 ≤ k.1 ∧ k.1 ≤ 15 ∧ 1 ≤ k.2.1 ∧ k.2.1 ≤ 60 := by
 unfold zO at h
 simp only [Bool.and_eq_true, zt] at h
 obtain ⟨⟨h1, h2⟩, ⟨h3, h4⟩, _⟩ := h
 refine ⟨?_, h1, h2, h3, h4⟩
 unfold J7
 rw [w64 (n := 64 * k.1) (by omega) (by omega), w64 (by omega) (by omega)]
theorem qC {a b : y7} (ha : zO a = true) (hb : zO b = true) : W4 a b = true ↔ J7 a < J7 b := by
 have h1 := y8L ha
 have h2 := y8L hb
 rw [KE, h1.1, h2.1]
 omega
structure Parts (q : List Int) (t : List y0) : Prop where
 len : q.length = t.length
 zero : q.getD 0 0 = 0
 pos : 0 < t.length
 ok : ∀ i, i < t.length → ∀ s ∈ (show List ya from t.getD i yg), Wl s = true
 low : ∀ i, i + 1 < t.length → q.getD i 0 < q.getD (i + 1) 0
 key : ∀ i, i < t.length → ∀ x ∈ yz (t.getD i yg), zO x = true ∧ q.getD i 0 ≤ J7 x ∧ (i + 1 < t.length → J7 x < q.getD (i + 1) 0)
theorem zx {q : List Int} {t : List y0} (h : z8 q t = true) : Parts q t := by
 obtain ⟨f1, f2, f3, f4⟩ := jR h
 unfold z8 at h
 simp only [Bool.and_eq_true, Bool.not_eq_true', decide_eq_true_eq, zt, beq_iff_eq] at h
 obtain ⟨_, _, h0, h3, _⟩ := h
 have hb : ∀ i, i < t.length → yet q i = false ∧ y2i q i (t.getD i yg) = true := fun i hi => by
  have := J6 yg t 0 h3 i hi
  unfold KX at this
  simp only [Bool.or_eq_false_iff, Bool.not_eq_false'] at this
  rw [show (0 : Int) + (i : Int) = i by omega] at this
  exact this
 have hmem : ∀ i, i < t.length → t.getD i yg ∈ t := fun i hi => by
  rw [yE _ _ _ hi]
  exact List.getElem_mem _
 have hset : ∀ i, i < t.length → ∀ s ∈ (show List ya from t.getD i yg), Wl s = true := fun i hi s hs => (y2j (f4 _ (hmem i hi))).2 s hs
 refine ⟨f1, h0, by omega, hset, fun i hi => ?_, fun i hi x hx => ?_⟩
 ·have := (hb (i + 1) hi).1
  unfold yet at this
  simp only [Bool.and_eq_false_iff, decide_eq_false_iff_not] at this
  rcases this with h1 | h1
  ·omega
  ·rw [show (((i + 1 : Nat) : Int) - 1).toNat = i by omega, show (((i + 1 : Nat) : Int)).toNat = i + 1 by omega] at h1
   omega
 ·obtain ⟨c, hc, hxc⟩ := y0l hx
  refine ⟨(y49 (hset i hi c hc)).2 x hxc, ?_⟩
  have h1 := (hb i hi).2
  unfold y2i at h1
  simp only [Bool.and_eq_true, Bool.not_eq_true'] at h1
  obtain ⟨_, h2⟩ := J2 _ _ 0 h1.2.2 c hc
  unfold yaX at h2
  obtain ⟨_, h3⟩ := J2 _ _ 0 h2 x hxc
  unfold yhn at h3
  simp only [Bool.or_eq_false_iff, decide_eq_false_iff_not, Bool.and_eq_false_iff] at h3
  rw [show ((i : Nat) : Int).toNat = i by omega, show (((i : Nat) : Int) + 1).toNat = i + 1 by omega] at h3
  refine ⟨by omega, fun h4 => ?_⟩
  rcases h3.2 with h5 | h5 <;> omega
section
variable {q : List Int} {t : List y0} (h : Parts q t)
include h
theorem Parts.lows : ∀ (d i : Nat), i + 1 + d < t.length → q.getD i 0 < q.getD (i + 1 + d) 0
 | 0, i, hi => h.low i hi
 | d + 1, i, hi => by
  have h1 := Parts.lows d i (by omega)
  have h2 := h.low (i + 1 + d) (by omega)
  rw [show i + 1 + (d + 1) = i + 1 + d + 1 by omega]
  omega
theorem Parts.apart {i j : Nat} (hij : i < j) (hj : j < t.length) : ∀ x ∈ yz (t.getD i yg), J7 x < q.getD j 0 := fun x hx => by
 obtain ⟨_, _, h3⟩ := h.key i (by omega) x hx
 have h3 := h3 (by omega)
 by_cases e : j = i + 1
 ·rw [e]
  exact h3
 ·have := h.lows (j - (i + 1) - 1) (i + 1) (by omega)
  rw [show i + 1 + 1 + (j - (i + 1) - 1) = j by omega] at this
  omega
theorem Parts.srt : srt (yb t) := by
 rw [KI]
 refine List.pairwise_flatMap.2 ⟨fun n hn => KG n, List.pairwise_iff_getElem.2 fun i j hi hj hij x hx y hy => ?_⟩
 rw [← yE yg t i hi] at hx
 rw [← yE yg t j hj] at hy
 obtain ⟨kx, _⟩ := h.key i hi x hx
 obtain ⟨ky, ly, _⟩ := h.key j hj y hy
 rw [qC kx ky]
 have := h.apart hij hj x hx
 omega
omit h in
theorem y8M (q : List Int) (sp : Int) : ∀ (n : Nat) (j : Nat), W7 q sp n = (j : Int) → q.getD j 0 ≤ sp ∧ j < n ∧ ∀ i, j < i → i < n → sp < q.getD i 0
 | 0, j, h => by
  rw [W7] at h
  omega
 | n + 1, j, h => by
  rw [W7] at h
  split at h
  ·rename_i hq
   have : j = n := by omega
   subst this
   exact ⟨hq, Nat.lt_succ_self _, fun i h1 h2 => by omega⟩
  ·rename_i hq
   obtain ⟨h1, h2, h3⟩ := y8M q sp n j h
   refine ⟨h1, by omega, fun i h4 h5 => ?_⟩
   by_cases e : i = n
   ·subst e
    omega
   ·exact h3 i h4 (by omega)
theorem Parts.around {k : y7} (hk : zO k = true) {j : Nat} (hj : W7 q (jS k.1 k.2.1) q.length = (j : Int)) : (∀ x ∈ yb (t.take j), W4 x k = true) ∧ ∀ x ∈ yb (t.drop (j + 1)), W4 k x = true := by
 have hs : jS k.1 k.2.1 = J7 k := rfl
 rw [hs] at hj
 obtain ⟨h1, h2, h3⟩ := y8M q (J7 k) q.length j hj
 rw [h.len] at h2 h3
 refine ⟨fun x hx => ?_, fun x hx => ?_⟩
 ·obtain ⟨n, hn, hx⟩ := y4d.1 hx
  obtain ⟨i, hi, rfl⟩ := List.mem_iff_getElem.1 hn
  rw [List.length_take] at hi
  rw [List.getElem_take, ← yE yg t i (by omega)] at hx
  have hx1 := (h.key i (by omega) x hx).1
  have := h.apart (show i < j by omega) h2 x hx
  rw [qC hx1 hk]
  omega
 ·obtain ⟨n, hn, hx⟩ := y4d.1 hx
  obtain ⟨i, hi, rfl⟩ := List.mem_iff_getElem.1 hn
  rw [List.length_drop] at hi
  rw [List.getElem_drop, ← yE yg t (j + 1 + i) (by omega)] at hx
  obtain ⟨hx1, hx2, _⟩ := h.key (j + 1 + i) (by omega) x hx
  have := h3 (j + 1 + i) (by omega) (by omega)
  rw [qC hk hx1]
  omega
end
theorem y0u {q : List Int} {t : List y0} {k : y7} (h : z8 q t = true) (hk : zO k = true) : yb (yr q t k).2 = W5 (Y0 (yb t) k) := by
 have hP := zx h
 obtain ⟨e1, e2, e3⟩ := qV h hk
 obtain ⟨hA, hC⟩ := hP.around hk e1
 have hsp := qB yg t (z6 q k) e2
 have ht : yb t = yb (t.take (z6 q k)) ++ yz (t.getD (z6 q k) yg) ++ yb (t.drop (z6 q k + 1)) := by
  conv => lhs; rw [hsp]
  rw [YE, YE, Kr, List.append_assoc]
 have hgoal : W5 (Y0 (yb t) k) = yb (t.take (z6 q k)) ++ (Ya (t.getD (z6 q k) yg) k ++ yb (t.drop (z6 q k + 1))) := by
  rw [ht, ygz k hC hA, ydk, ydk, y58 _ (fun x hx => y0t hx), y58 _ (fun x hx => y0t hx), List.append_assoc]
  rfl
 have hok := hP.ok (z6 q k) e2
 have hset : ∀ n' : y0, yb (t.set (z6 q k) n') = yb (t.take (z6 q k)) ++ (yz n' ++ yb (t.drop (z6 q k + 1))) := fun n' => by
  rw [← y0S t (z6 q k) n' e2]
  unfold yZ
  rw [YE, YE, Kr, List.append_assoc]
 rw [hgoal]
 unfold yr
 generalize hn : t.getD (z6 q k) yg = n at *
 split
 ·unfold yZ
  simp only
  have hw := y4c n k
  have e4 : ∀ m, yz (yN ((Ya n k).take m)) = (Ya n k).take m := fun m => ZB (List.Pairwise.sublist (List.take_sublist _ _) hw) fun x hx => y2r (List.mem_of_mem_take hx)
  have e5 : ∀ m, yz (yN ((Ya n k).drop m)) = (Ya n k).drop m := fun m => ZB (List.Pairwise.sublist (List.drop_sublist _ _) hw) fun x hx => y2r (List.mem_of_mem_drop hx)
  rw [YE, YE, show [yN ((Ya n k).take (W8 (Ya n k))), yN ((Ya n k).drop (W8 (Ya n k)))] = [yN ((Ya n k).take (W8 (Ya n k)))] ++ [yN ((Ya n k).drop (W8 (Ya n k)))] from rfl, YE, Kr, Kr, e4, e5, List.take_append_drop, List.append_assoc]
 ·rename_i h1
  have h2 := ya5 k hok (by simpa using h1)
  split
  ·rename_i h3
   rw [h2] at h3
   unfold yZ
   simp only
   rw [List.length_eq_zero_iff.1 h3.2, YE, YE]
   simp [KI]
  ·rw [hset, h2]
theorem y5a {q : List Int} {t : List y0} {k : y7} (h : z8 q t = true) (hk : zO k = true) : srt (yb (yr q t k).2) := by
 rw [y0u h hk]
 exact KF (w8 k (zx h).srt)
theorem y0v {q : List Int} {t : List y0} {k : y7} (h : (yl q t k).2.2 = true) : z8 q t = true ∧ zO k = true ∧ z8 (yl q t k).1 (yl q t k).2.1 = true ∧ yb (yl q t k).2.1 = W5 (Y0 (yb t) k) := by
 unfold yl at h ⊢
 split
 ·rename_i h1
  rw [if_pos h1] at h
  simp only [Bool.and_eq_true] at h1
  split
  ·rename_i h2
   exact ⟨h1.1, h1.2, h2, (y59 _ _ _ (y5a h1.1 h1.2)).trans (y0u h1.1 h1.2)⟩
  ·rename_i h2
   rw [if_neg h2] at h
   cases h
 ·rename_i h1
  rw [if_neg h1] at h
  cases h
theorem ygA {s : List y7} {b a : Int} (h : (Wm s b a).2.2.2.2.2 = true) : ∃ c ∈ s, c.1 = b ∧ c.2.1 = a ∧ Wm s b a = y0p c := by
 unfold Wm at h ⊢
 split
 ·rename_i h1
  rw [if_pos h1] at h
  cases h
 ·rename_i h1
  rcases Yc (atP b a) yF s 0 (Int.le_refl _) with h2 | ⟨h2, h3, h4⟩
  ·omega
  ·rw [Int.sub_zero] at h4
   unfold atP at h4
   simp only [Bool.and_eq_true, beq_iff_eq] at h4
   exact ⟨_, yX yF s _ h2 (by omega), h4.1, h4.2, rfl⟩
theorem yiF {s : List y7} {b a : Int} (h : (Wm s b a).2.2.2.2.2 = false) : ∀ c ∈ s, ¬ (c.1 = b ∧ c.2.1 = a) := by
 unfold Wm at h
 split at h
 ·rename_i h1
  intro c hc hh
  have := Wn s 0 (Int.le_refl _) h1 c hc
  unfold atP at this
  rw [hh.1, hh.2] at this
  simp at this
 ·cases h
theorem qW {s : List y7} (h : srt s) {x y : y7} (hx : x ∈ s) (hy : y ∈ s) (he : Y1 x y = true) : x = y := by
 obtain ⟨i, hi, rfl⟩ := List.mem_iff_getElem.1 hx
 obtain ⟨j, hj, rfl⟩ := List.mem_iff_getElem.1 hy
 have hp := List.pairwise_iff_getElem.1 h
 rcases Nat.lt_trichotomy i j with h1 | h1 | h1
 ·rw [VY (hp i j hi hj h1)] at he
  cases he
 ·subst h1
  rfl
 ·rw [y0s, VY (hp j i hj hi h1)] at he
  cases he
theorem yiG (n : List ya) (m : Nat) (hm : m < n.length) : yho (n.take (m + 1)) = Z8 (yho (n.take m)) (n.getD m z7) := by
 rw [List.take_succ, List.getElem?_eq_getElem hm, yE _ _ _ hm]
 exact y4b _ _
theorem y2s {n : List ya} (hn : ∀ s ∈ n, Wl s = true) (b a : Int) : ∀ m, m ≤ n.length → ((jx n b a m).2.2.2.2.2 = true → ∃ c ∈ W5 (yho (n.take m)), c.1 = b ∧ c.2.1 = a ∧ jx n b a m = y0p c) ∧ ((jx n b a m).2.2.2.2.2 = false → (∀ c ∈ W5 (yho (n.take m)), ¬ (c.1 = b ∧ c.2.1 = a)) ∧ jx n b a m = y53)
 | 0, _ => ⟨fun h => by simp [jx, y53] at h, fun _ => ⟨fun c hc => by simp [yho, W5] at hc, rfl⟩⟩
 | m + 1, hm => by
  obtain ⟨ih1, ih2⟩ := y2s hn b a m (by omega)
  have hs : Wl (n.getD m z7) = true := hn _ (by rw [yE _ _ _ (by omega)]; exact List.getElem_mem _)
  have hsrt := ya4 hs
  have hall := yiG n m (by omega)
  rw [jx, hall]
  generalize n.getD m z7 = s at *
  cases hok : (Wm s b a).2.2.2.2.2 with
  | true =>
   obtain ⟨c, hc, c1, c2, hce⟩ := ygA hok
   rw [if_pos rfl, hce]
   have hsame : ∀ c', c'.1 = b ∧ c'.2.1 = a → Y1 c' c = true := fun c' h => zw.2 ⟨h.1.trans c1.symm, h.2.trans c2.symm⟩
   by_cases h0 : c.2.2.1 = 0
   ·rw [if_pos (by simp [y0p, h0])]
    refine ⟨fun h => by simp [y53] at h, fun _ => ⟨fun c' hc' hh => ?_, rfl⟩⟩
    obtain ⟨h1, h2⟩ := wd.1 hc'
    rcases (KH hsrt).1 h1 with h3 | ⟨_, h3⟩
    ·rw [qW hsrt h3 hc (hsame c' hh)] at h2
     exact h2 h0
    ·have := hsame c' hh
     rw [h3 c hc] at this
     cases this
   ·rw [if_neg (by simp [y0p, h0])]
    refine ⟨fun _ => ⟨c, wd.2 ⟨(KH hsrt).2 (.inl hc), h0⟩, c1, c2, rfl⟩, fun h => by simp [y0p] at h⟩
  | false =>
   rw [if_neg (by simp)]
   have hno := yiF hok
   refine ⟨fun h => ?_, fun h => ⟨fun c hc hh => ?_, (ih2 h).2⟩⟩
   ·obtain ⟨c, hc, c1, c2, hce⟩ := ih1 h
    obtain ⟨h1, h2⟩ := wd.1 hc
    refine ⟨c, wd.2 ⟨(KH hsrt).2 (.inr ⟨h1, fun y hy => ?_⟩), h2⟩, c1, c2, hce⟩
    cases hcy : Y1 c y with
    | false => rfl
    | true =>
     rw [zw] at hcy
     exact absurd ⟨hcy.1.symm.trans c1, hcy.2.symm.trans c2⟩ (hno y hy)
   ·obtain ⟨h1, h2⟩ := wd.1 hc
    rcases (KH hsrt).1 h1 with h3 | ⟨h3, _⟩
    ·exact hno c h3 hh
    ·exact (ih2 h).1 c (wd.2 ⟨h3, h2⟩) hh
theorem y1G {q : List Int} {t : List y0} (h : z8 q t = true) {b a : Int} (hb : 0 ≤ b ∧ b ≤ 15) (ha : 1 ≤ a ∧ a ≤ 60) :
  ((YT q t b a).2.2.2.2.2 = true → ∃ c ∈ yb t, c.1 = b ∧ c.2.1 = a ∧ YT q t b a = y0p c) ∧ ((YT q t b a).2.2.2.2.2 = false → ∀ c ∈ yb t, ¬ (c.1 = b ∧ c.2.1 = a)) := by
 have hP := zx h
 have hk : zO (b, a, 0, 0, 0) = true := by
  unfold zO
  simp only [zt.2 hb, zt.2 ha]
  rfl
 obtain ⟨e1, e2, e3⟩ := qV h hk
 obtain ⟨hA, hC⟩ := hP.around hk e1
 have hsp := qB yg t (z6 q (b, a, 0, 0, 0)) e2
 have ht : yb t = yb (t.take (z6 q (b, a, 0, 0, 0))) ++ (yz (t.getD (z6 q (b, a, 0, 0, 0)) yg) ++ yb (t.drop (z6 q (b, a, 0, 0, 0) + 1))) := by
  conv => lhs; rw [hsp]
  rw [YE, YE, Kr]
 have hrd : yf t ((z6 q (b, a, 0, 0, 0) : Nat) : Int) = t.getD (z6 q (b, a, 0, 0, 0)) yg := rfl
 have hte : YT q t b a = jx (t.getD (z6 q (b, a, 0, 0, 0)) yg) b a (List.length (show List ya from t.getD (z6 q (b, a, 0, 0, 0)) yg)) := by
  unfold YT
  rw [show W7 q (jS b a) q.length = ((z6 q (b, a, 0, 0, 0) : Nat) : Int) from e1, if_pos (zt.2 ⟨by omega, by omega⟩), hrd]
 have hn := hP.ok _ e2
 obtain ⟨n1, n2⟩ := y2s hn b a _ (Nat.le_refl _)
 rw [List.take_length] at n1 n2
 rw [hte, ht]
 refine ⟨fun hh => ?_, fun hh c hc hcc => ?_⟩
 ·obtain ⟨c, hc, r⟩ := n1 hh
  exact ⟨c, List.mem_append_right _ (List.mem_append_left _ hc), r⟩
 ·have hs : Y1 c (b, a, 0, 0, 0) = true := zw.2 hcc
  rcases List.mem_append.1 hc with hc | hc
  ·rw [VY (hA c hc)] at hs
   cases hs
  ·rcases List.mem_append.1 hc with hc | hc
   ·exact (n2 hh).1 c hc hcc
   ·rw [y0s, VY (hC c hc)] at hs
    cases hs
end Go.Proofs.YtjllpipmaejeoaaGreat.Pl
namespace Go.Proofs.YtjllpipmaejeoaaGreat.Pl
open Go.Proofs.YtjllpipmaejeoaaGreat.R Go.Proofs.YtjllpipmaejeoaaGreat.XW
def wh (fr id : Int) (x : y9) : y9 := if (x.2 == id) = true then (x.1, fr) else x
def y3v (l : List y9) (i : Nat) (id : Int) : List y9 := (l.map (wh (l.getD i yy).2 id)).eraseIdx i
def y0w (l : List y9) (id : Int) : List y9 × Bool := if yR l id < 0 then (l, false) else if YK l = true then (y3v l (yR l id).toNat id, true) else (l, false)
theorem y31 (l : List y9) (h : l.length ≤ 1048576) : Z6 l = some l := by
 unfold Z6
 rw [if_pos (by simp only [List.length_nil]; omega)]
 rfl
theorem y4e {A : Type} (p : A → Bool) : ∀ (l : List A) (i : Int), zF p l i = -1 ∨ i ≤ zF p l i ∧ zF p l i < i + l.length
 | [], _ => .inl rfl
 | a :: l, i => by
  rw [zF]
  split
  ·refine .inr ⟨Int.le_refl _, by simp only [List.length_cons]; omega⟩
  ·rcases y4e p l (i + 1) with h | ⟨h1, h2⟩
   ·exact .inl h
   ·exact .inr ⟨by omega, by simp only [List.length_cons]; omega⟩
theorem y5T (l : List y9) (id : Int) (hl : l.length ≤ 1048576) : JY (l, id) = some (y0w l id) := by
 unfold JY y0w
 simp only [Zz l id (by omega), Ko l hl, Option.bind_some]
 by_cases h0 : yR l id < 0
 ·rw [decide_eq_true h0, if_pos h0]
  simp only [cond_true, Option.bind_some]
  rw [if_pos (by simp only [List.length_nil]; omega)]
  rfl
 ·rw [decide_eq_false h0, if_neg h0]
  cases hA : YK l with
  | false =>
   simp only [cond_false, Bool.not_false, Option.bind_some, cond_true]
   rw [if_pos (by simp only [List.length_nil]; omega)]
   rfl
  | true =>
   simp only [cond_false, Bool.not_true, Option.bind_some, if_true]
   have hi1 : yR l id < (l.length : Int) := by
    rcases y4e (fun a : y9 => a.1 == id) l 0 with h | ⟨h1, h2⟩
    ·have : yR l id = -1 := h
     omega
    ·have : yR l id = zF (fun a : y9 => a.1 == id) l 0 := rfl
     omega
   generalize yR l id = i at h0 hi1
   unfold QZ
   have key := Zy (step := WR (fun x4 => some (x4, true))) (fun x : List y9 × Int × Int × Int × List y9 => l.length - x.2.2.2.1.toNat) (fun x => x.1 = l ∧ x.2.1 = id ∧ x.2.2.1 = i ∧ 0 ≤ x.2.2.2.1 ∧ x.2.2.2.1 ≤ (l.length : Int) ∧ x.2.2.2.2.length ≤ x.2.2.2.1.toNat)
    (fun x => some (x.2.2.2.2 ++ (if x.2.2.2.1 ≤ i then ((l.drop x.2.2.2.1.toNat).map (wh (l.getD i.toNat yy).2 id)).eraseIdx (i - x.2.2.2.1).toNat else (l.drop x.2.2.2.1.toNat).map (wh (l.getD i.toNat yy).2 id)), true)) ?_ (l, id, i, 0, []) ⟨rfl, rfl, rfl, Int.le_refl _, by simp, by simp⟩ (by simp; omega)
   ·rw [key]
    simp only [List.nil_append]
    rw [if_pos (by omega), Int.sub_zero]
    rfl
   ·rintro again ⟨l', id', i', j, o⟩ ⟨rfl, rfl, rfl, j0, j1, ho⟩ hag
    simp only at j0 j1 ho hl hi1 h0 ⊢
    unfold WR
    by_cases hj : j < (l'.length : Int)
    ·have hw : Go.IntKind.wrap .i64 (j + 1) = j + 1 := w64 (by omega) (by omega)
     have hd := JG yy l' j j0 hj
     have e1 : (j + 1).toNat = j.toNat + 1 := by omega
     have hlen : ∀ y : y9, (List.length o + List.length ([y] : List y9)) * 16 < 140737488355328 := fun y => by simp only [List.length_cons, List.length_nil]; omega
     have hstep : ∀ y, y = wh (l'.getD i'.toNat yy).2 id' (l'.getD j.toNat yy) → (bif (j != i') then if (List.length o + List.length ([y] : List y9)) * 16 < 140737488355328 then again (l', id', i', j + 1, o ++ [y]) else none else again (l', id', i', j + 1, o)) = some (o ++ (if j ≤ i' then ((l'.drop j.toNat).map (wh (l'.getD i'.toNat yy).2 id')).eraseIdx (i' - j).toNat else (l'.drop j.toNat).map (wh (l'.getD i'.toNat yy).2 id')), true) := by
      rintro y rfl
      rw [hd, List.map_cons]
      by_cases hji : j = i'
      ·rw [show (j != i') = false by simp [hji], cond_false, if_pos (by omega), show (i' - j).toNat = 0 by omega, List.eraseIdx_zero, List.tail_cons]
       have := hag (l', id', i', j + 1, o) ⟨rfl, rfl, rfl, by simp only; omega, by simp only; omega, by simp only; omega⟩ (by simp only; omega)
       rw [this]
       simp only
       rw [if_neg (by omega)]
      ·rw [show (j != i') = true by simpa using hji, cond_true, if_pos (hlen _)]
       have := hag (l', id', i', j + 1, o ++ [wh (l'.getD i'.toNat yy).2 id' (l'.getD j.toNat yy)]) ⟨rfl, rfl, rfl, by simp only; omega, by simp only; omega, by simp only [List.length_append, List.length_cons, List.length_nil]; omega⟩ (by simp only; omega)
       rw [this]
       simp only
       by_cases hlt : j ≤ i'
       ·rw [if_pos hlt, if_pos (by omega), show (i' - j).toNat = (i' - (j + 1)).toNat + 1 by omega, List.eraseIdx_cons_succ, List.append_assoc]
        rfl
       ·rw [if_neg hlt, if_neg (by omega), List.append_assoc]
        rfl
     have hrd : yA l' j = l'.getD j.toNat yy := rfl
     simp only [hw]
     rw [decide_eq_true hj, cond_true, if_pos j0, if_pos hj]
     by_cases hid : (l'.getD j.toNat yy).2 = id'
     ·have hb : ((yA l' j).2 == id') = true := beq_iff_eq.2 hid
      rw [hb, cond_true, if_pos (by omega), if_pos hi1]
      exact hstep _ (by unfold wh; rw [if_pos (beq_iff_eq.2 hid)]; rfl)
     ·have hb : ((yA l' j).2 == id') = false := beq_eq_false_iff_ne.2 hid
      rw [hb, cond_false]
      exact hstep _ (by unfold wh; rw [if_neg (by simpa using hid)]; rfl)
    ·rw [decide_eq_false hj, cond_false, List.drop_of_length_le (by omega)]
     simp
theorem y5U (l : List y9) (id : Int) (hl : l.length ≤ 1048576) : kn (l, id) = some (y0w l id) := by
 unfold kn y0w
 simp only [ku l id (by omega), y1k l hl, y31 l hl, Option.bind_some]
 by_cases h0 : yR l id < 0
 ·rw [decide_eq_true h0, if_pos h0]
  rfl
 ·rw [decide_eq_false h0, if_neg h0]
  cases hA : YK l with
  | false => rfl
  | true =>
   simp only [cond_false, Bool.not_true, Option.bind_some, if_true]
   have hi1 : yR l id < (l.length : Int) := by
    rcases y4e (fun a : y9 => a.1 == id) l 0 with h | ⟨h1, h2⟩
    ·have : yR l id = -1 := h
     omega
    ·have : yR l id = zF (fun a : y9 => a.1 == id) l 0 := rfl
     omega
   generalize yR l id = i at h0 hi1
   unfold y0e
   have key := Zy (step := km (fun x5 => Option.bind (zX (x5.2, x5.1, (Go.IntKind.wrap .i64 (x5.1 + (1 : Int))))) fun r6 => some (r6, true))) (fun x : List y9 × Int × Int × Int × Int × List y9 => l.length - x.2.2.2.2.1.toNat) (fun x => x.1 = l ∧ x.2.1 = id ∧ x.2.2.1 = i ∧ x.2.2.2.1 = ((List.length l : Nat) : Int) ∧ 0 ≤ x.2.2.2.2.1 ∧ x.2.2.2.2.1 ≤ (l.length : Int) ∧ x.2.2.2.2.2.length = l.length)
    (fun x => some ((x.2.2.2.2.2.take x.2.2.2.2.1.toNat ++ (x.2.2.2.2.2.drop x.2.2.2.2.1.toNat).map (wh (l.getD i.toNat yy).2 id)).eraseIdx i.toNat, true)) ?_ (l, id, i, ((List.length l : Nat) : Int), 0, l) ⟨rfl, rfl, rfl, rfl, Int.le_refl _, by simp, rfl⟩ (by simp; omega)
   ·rw [key]
    rfl
   ·rintro again ⟨l', id', i', n, j, o⟩ ⟨rfl, rfl, rfl, hn, j0, j1, ho⟩ hag
    simp only at hn j0 j1 ho hl hi1 h0 hag ⊢
    subst hn
    unfold km
    by_cases hj : j < (l'.length : Int)
    ·have hw : Go.IntKind.wrap .i64 (j + 1) = j + 1 := w64 (by omega) (by omega)
     have hd := JG yy o j j0 (by omega)
     have e1 : (j + 1).toNat = j.toNat + 1 := by omega
     have hjo : j < ((List.length o : Nat) : Int) := by omega
     have hnext : ∀ o', o' = o.set j.toNat (wh (l'.getD i'.toNat yy).2 id' (o.getD j.toNat yy)) → again (l', id', i', ((List.length l' : Nat) : Int), j + 1, o') = some ((o.take j.toNat ++ (o.drop j.toNat).map (wh (l'.getD i'.toNat yy).2 id')).eraseIdx i'.toNat, true) := by
      rintro o' rfl
      rw [hag (l', id', i', ((List.length l' : Nat) : Int), j + 1, o.set j.toNat (wh (l'.getD i'.toNat yy).2 id' (o.getD j.toNat yy))) ⟨rfl, rfl, rfl, rfl, by simp only; omega, by simp only; omega, by simpa using ho⟩ (by simp only; omega)]
      simp only
      rw [hd, List.map_cons, e1, List.take_succ_eq_append_getElem (by simp; omega), List.take_set_of_le (Nat.le_refl _), List.drop_set_of_lt (by omega)]
      simp
     simp only [hw]
     rw [decide_eq_true hj, cond_true, if_pos j0, if_pos hjo]
     by_cases hid : (o.getD j.toNat yy).2 = id'
     ·have hb : ((yA o j).2 == id') = true := beq_iff_eq.2 hid
      rw [hb, cond_true, if_pos (by omega), if_pos hi1, if_pos j0, if_pos hjo]
      exact hnext _ (by unfold wh; rw [if_pos (beq_iff_eq.2 hid)]; rfl)
     ·have hb : ((yA o j).2 == id') = false := beq_eq_false_iff_ne.2 hid
      rw [hb, cond_false]
      refine hnext _ ?_
      unfold wh
      rw [if_neg (by simpa using hid), yE _ _ _ (by omega), List.set_getElem_self]
    ·have hjl : j.toNat = o.length := by omega
     have hwi : Go.IntKind.wrap .i64 (i' + 1) = i' + 1 := w64 (by omega) (by omega)
     rw [decide_eq_false hj, cond_false, hjl, List.drop_length, List.take_length, List.map_nil, List.append_nil]
     simp only [hwi]
     unfold zX
     simp only
     rw [if_pos (by omega), if_pos (by omega), if_pos (by omega)]
     simp only [Option.bind_some]
     rw [show (i' + 1).toNat = i'.toNat + 1 by omega, List.eraseIdx_eq_take_drop_succ]
def y11 (cs : List y8) (i : Int) : List y8 := if ze cs = true ∧ 0 ≤ i ∧ i ≤ 23 ∧ (cs.getD i.toNat z0).2.1 = true then cs.set i.toNat (Int.tmod (Go.IntKind.wrap .i64 ((cs.getD i.toNat z0).1 + 1)) 1000, false, 0) else cs
theorem y5b (cs : List y8) (i : Int) : (y11 cs i).length = cs.length := by
 unfold y11
 split
 ·simp
 ·rfl
theorem v7 {cs : List y8} (h : ze cs = true) : cs.length = 24 := by
 unfold ze at h
 simp only [Bool.and_eq_true, beq_iff_eq] at h
 omega
theorem qX {cs : List y8} {i : Int} (h : ¬ (ze cs = true ∧ 0 ≤ i ∧ i ≤ 23 ∧ (cs.getD i.toNat z0).2.1 = true)) : y11 cs i = cs := if_neg h
theorem y5c {cs : List y8} {i : Int} (h : ze cs = true ∧ 0 ≤ i ∧ i ≤ 23 ∧ (cs.getD i.toNat z0).2.1 = true) : y11 cs i = cs.set i.toNat (Int.tmod (Go.IntKind.wrap .i64 ((cs.getD i.toNat z0).1 + 1)) 1000, false, 0) := if_pos h
theorem v8 (cs : List y8) (i : Int) (hc : cs.length ≤ 1048576) : ZT (cs, i) = some (y11 cs i) := by
 have e1 : Y5 cs = some cs := by
  unfold Y5
  rw [if_pos (by simp only [List.length_nil]; omega)]
  rfl
 unfold ZT
 simp only [e1, JH cs hc, ZK, Option.bind_some]
 cases hk : ze cs with
 | false =>
  rw [qX fun h => by rw [hk] at h; cases h.1]
  rfl
 | true =>
  have h24 := v7 hk
  have hw : Go.IntKind.wrap .i64 ((cs.length : Int) - 1) = 23 := by rw [w64 (by omega) (by omega)]; omega
  simp only [hw, cond_true, Option.bind_some]
  cases hi : inR i 0 23 with
  | false =>
   have : ¬ (0 ≤ i ∧ i ≤ 23) := fun h => by rw [zt.2 h] at hi; cases hi
   rw [qX fun h => this ⟨h.2.1, h.2.2.1⟩]
   rfl
  | true =>
   obtain ⟨i0, i1⟩ := zt.1 hi
   rw [cond_true, if_pos i0, if_pos (by omega)]
   have hrd : yG cs i = cs.getD i.toNat z0 := rfl
   rw [hrd]
   cases hu : (cs.getD i.toNat z0).2.1 with
   | false =>
    rw [qX fun h => by have := h.2.2.2; rw [hu] at this; cases this]
    rfl
   | true =>
    simp only [Option.bind_some, cond_true]
    rw [if_pos i0, if_pos (by omega), if_pos i0, if_pos (by omega), y5c ⟨hk, i0, i1, hu⟩]
theorem y3Q (cs : List y8) (i : Int) (hc : cs.length ≤ 1048576) : JE (cs, i) = some (y11 cs i) := by
 have e1 : YI cs = some cs := by
  unfold YI
  rw [if_pos (by simp only [List.length_nil]; omega)]
  rfl
 unfold JE
 simp only [e1, y0j cs hc, jd, Option.bind_some]
 cases hk : ze cs with
 | false =>
  rw [qX fun h => by rw [hk] at h; cases h.1]
  rfl
 | true =>
  have h24 := v7 hk
  simp only [Bool.not_true, cond_false, Option.bind_some]
  cases hi : inR i 0 23 with
  | false =>
   have : ¬ (0 ≤ i ∧ i ≤ 23) := fun h => by rw [zt.2 h] at hi; cases hi
   rw [qX fun h => this ⟨h.2.1, h.2.2.1⟩]
   rfl
  | true =>
   obtain ⟨i0, i1⟩ := zt.1 hi
   rw [Bool.not_true, cond_false, if_pos i0, if_pos (by omega)]
   have hrd : yG cs i = cs.getD i.toNat z0 := rfl
   rw [hrd]
   cases hu : (cs.getD i.toNat z0).2.1 with
   | false =>
    rw [qX fun h => by have := h.2.2.2; rw [hu] at this; cases this]
    rfl
   | true =>
    simp only [Option.bind_some, Bool.not_true, cond_false]
    rw [if_pos i0, if_pos (by omega), if_pos i0, if_pos (by omega), y5c ⟨hk, i0, i1, hu⟩]
end Go.Proofs.YtjllpipmaejeoaaGreat.Pl
namespace Go.Proofs.YtjllpipmaejeoaaGreat.Pl
open Go.Proofs.YtjllpipmaejeoaaGreat.R Go.Proofs.YtjllpipmaejeoaaGreat.XW
def y3w (l : List y9) (vs : List ye) (id : Int) : Bool := v5 vs id && ((yQ l id).length : Int) == 1
def zg (q : List Int) (t : List y0) (l : List y9) (vs : List ye) (step : Int) (k : y7) : Bool :=
 if step = 1 then !K9 t l vs k else if step = 2 then (k.2.2.1 == 2) && !(y3s t l k.1 k.2.1).1 else
  y3w l vs k.2.1 && !(YT q t k.1 ((yQ l k.2.1).getD 0 0)).2.2.2.2.2
theorem yiH (l : List y9) (id : Int) : ∀ x ∈ yQ l id, ∃ a ∈ l, a.1 = x := by
 have : ∀ (l : List y9) (s : List Int) (x : Int), x ∈ l.foldl (qz id) s → x ∈ s ∨ ∃ a ∈ l, a.1 = x := by
  intro l
  induction l with
  | nil => intro s x h; exact .inl h
  | cons a l ih =>
   intro s x h
   rw [List.foldl_cons] at h
   rcases ih _ x h with h | ⟨b, hb, e⟩
   ·unfold qz at h
    split at h
    ·rcases List.mem_append.1 h with h | h
     ·exact .inl h
     ·exact .inr ⟨a, by simp, (by simpa using h : x = a.1).symm⟩
    ·exact .inl h
   ·exact .inr ⟨b, by simp [hb], e⟩
 intro x hx
 rcases this l [] x hx with h | h
 ·simp at h
 ·exact h
theorem ydn {A : Type} {p : A → Bool} : ∀ (l : List A) (i : Int), Yq (fun _ a => p a) l i = false → ∀ a ∈ l, p a = false
 | b :: l, i, h, a, ha => by
  rw [Yq, Bool.or_eq_false_iff] at h
  rcases List.mem_cons.1 ha with rfl | ha
  ·exact h.1
  ·exact ydn l (i + 1) h.2 a ha
theorem yiI {l : List y9} (h : YK l = true) : ∀ a ∈ l, 1 ≤ a.1 := by
 unfold YK y2U at h
 simp only [Bool.and_eq_true, Bool.not_eq_true'] at h
 have h1 := h.1
 rw [yc6, Bool.or_eq_false_iff] at h1
 intro a ha
 have := ydn (p := fun a : y9 => !inR a.1 1 60) l 0 h1.1 a ha
 simp only [Bool.not_eq_false'] at this
 exact (zt.1 this).1
section
variable (q : List Int) (t : List y0) (l : List y9) (cs : List y8) (vs : List ye) (z : Int)
theorem y5d (ht : TOk t) (hq : q.length ≤ 1048576) (hl : l.length ≤ 1048576) (hv : vs.length ≤ 1048576) (hpos : ∀ a ∈ l, 1 ≤ a.1) (step : Int) (k1 k2 k3 k4 k5 : Int) : WO (q, t, l, cs, vs, z, step, k1, k2, k3, k4, k5) = some (zg q t l vs step (k1, k2, k3, k4, k5)) := by
 unfold WO zg
 simp only [Bool.cond_eq_ite, beq_iff_eq, y2T q t l cs vs z k1 k2 k3 k4 k5 ht hl hv, y2k q t l k1 k2 ht hl, Option.bind_some]
 by_cases h1 : step = 1
 ·simp only [h1, if_true]
 by_cases h2 : step = 2
 ·subst h2
  simp only [if_true, if_neg (show ¬ (2 : Int) = 1 by omega)]
  by_cases h3 : k3 = 2
  ·have : (k3 == 2) = true := by simp [h3]
   rw [this, if_pos h3]
   rfl
  ·have : (k3 == 2) = false := by simpa using h3
   rw [this, if_neg h3]
   rfl
 simp only [h1, h2, if_false]
 unfold Ki Zn y3w
 simp only [Kp l k2 hl, y0m q t l cs vs z k2 hv, Option.bind_some]
 cases v5 vs k2
 ·rfl
 by_cases hk : ((yQ l k2).length : Int) = 1
 ·have g1 : (((yQ l k2).length : Int) != 1) = false := by simp [hk]
  have g2 : (((yQ l k2).length : Int) == 1) = true := by simp [hk]
  have hlt : (0 : Int) < ((yQ l k2).length : Int) := by omega
  have hne : ((yQ l k2).getD 0 0 == 0) = false := by
   have hm : (yQ l k2).getD 0 0 ∈ yQ l k2 := yX 0 (yQ l k2) 0 (Int.le_refl _) hlt
   obtain ⟨a, ha, e⟩ := yiH l k2 _ hm
   have := hpos a ha
   simp only [beq_eq_false_iff_ne, ne_eq]
   omega
  have hx : zu (yQ l k2) 0 = (yQ l k2).getD 0 0 := rfl
  simp only [g1, g2, hlt, Bool.not_true, cond_false, cond_true, Option.bind_some, Int.le_refl, if_true, hx, hne, Kq q t k1 _ ht hq, Bool.true_and, Bool.and_self, Bool.and_true, Bool.true_and]
 ·have g1 : (((yQ l k2).length : Int) != 1) = true := by simpa using hk
  have g2 : (((yQ l k2).length : Int) == 1) = false := by simpa using hk
  simp only [g1, g2]
  rfl
theorem y5e (ht : TOk t) (hq : q.length ≤ 1048576) (hl : l.length ≤ 1048576) (hv : vs.length ≤ 1048576) (step : Int) (k1 k2 k3 k4 k5 : Int) : wH (q, t, l, cs, vs, z, step, k1, k2, k3, k4, k5) = some (zg q t l vs step (k1, k2, k3, k4, k5)) := by
 unfold wH zg
 simp only [Bool.cond_eq_ite, beq_iff_eq, Ka q t l cs vs z k1 k2 k3 k4 k5 ht hl hv, y8I q t l k1 k2 ht hl, Option.bind_some]
 by_cases h1 : step = 1
 ·simp only [h1, if_true]
 by_cases h2 : step = 2
 ·subst h2
  simp only [if_true, if_neg (show ¬ (2 : Int) = 1 by omega)]
  by_cases h3 : k3 = 2
  ·have : (k3 == 2) = true := by simp [h3]
   rw [this, if_pos h3]
   rfl
  ·have : (k3 == 2) = false := by simpa using h3
   rw [this, if_neg h3]
   rfl
 simp only [h1, h2, if_false]
 unfold y3w
 simp only [J0 l k2 hl, VF q t l cs vs z k2 hv, Option.bind_some]
 cases v5 vs k2
 ·rfl
 by_cases hk : ((yQ l k2).length : Int) = 1
 ·have g1 : (((yQ l k2).length : Int) != 1) = false := by simp [hk]
  have g2 : (((yQ l k2).length : Int) == 1) = true := by simp [hk]
  have hlt : (0 : Int) < ((yQ l k2).length : Int) := by omega
  have hx : zu (yQ l k2) 0 = (yQ l k2).getD 0 0 := rfl
  simp only [g1, g2, hlt, Bool.not_true, Bool.false_eq_true, if_false, Option.bind_some, Int.le_refl, if_true, hx, y1p q t k1 _ ht hq, Bool.true_and, Bool.and_self, Bool.and_true, Bool.true_and]
 ·have g1 : (((yQ l k2).length : Int) != 1) = true := by simpa using hk
  have g2 : (((yQ l k2).length : Int) == 1) = false := by simpa using hk
  simp only [g1, g2]
  rfl
def y3R (id : Int) (_ : Int) (k : y7) : Bool := k.2.1 == id
def yce (ks : List y7) (l : List y9) (vs : List ye) (a : y9) : Bool := !Yq (y3R a.1) ks 0 && (v5 vs a.1 && decide (((yQ l a.1).length : Int) ≤ 1))
theorem ycf (ht : TOk t) (hl : l.length ≤ 1048576) (hv : vs.length ≤ 1048576) (a : y9) : WP (q, t, l, cs, vs, z, a.1) = some (yce (yb t) l vs a) := by
 unfold WP QY yce
 have hk := ht.keys
 have e : yP (q, t) = some (yb t) := YJ q t (by have := ht.len; omega) ht.nodes ht.sum
 simp only [e, Option.bind_some]
 generalize yb t = ks at hk
 refine (zW (step := Jm _ _) (fun i => (a.1, i, q, t, l, cs, vs, z, ks)) (y3R a.1) (some false) (some (v5 vs a.1 && decide (((yQ l a.1).length : Int) ≤ 1))) yF ks (by omega) ?_ ?_).trans ?_
 ·intro again i h0 h1
  have hw : Go.IntKind.wrap .i64 (i + 1) = i + 1 := w64 (by omega) (by omega)
  unfold Jm y3R
  have hx : ks.getD i.toNat yF = y6 ks i := rfl
  rw [hx]
  simp only [Bool.cond_eq_ite, decide_eq_true_eq, h0, h1, if_true, hw]
 ·intro again i hi
  unfold Jm
  simp only [Bool.cond_eq_ite, decide_eq_true_eq, if_neg hi, y0m q t l cs vs z a.1 hv, Kp l a.1 hl, Option.bind_some]
  cases v5 vs a.1 <;> rfl
 ·cases Yq (y3R a.1) ks 0 <;> rfl
theorem y5f (ks : List y7) (id : Int) (hk : ks.length ≤ 1048576) : wI (ks, id) = some (Yq (y3R id) ks 0) := by
 unfold wI Ql
 refine (zW (step := jO _ _) (fun i => (id, ks, (ks.length : Int), i)) (y3R id) (some true) (some false) yF ks (by omega) ?_ ?_).trans ?_
 ·intro again i h0 h1
  have hw : Go.IntKind.wrap .i64 (i + 1) = i + 1 := w64 (by omega) (by omega)
  unfold jO y3R
  have hx : ks.getD i.toNat yF = y6 ks i := rfl
  rw [hx]
  simp only [Bool.cond_eq_ite, decide_eq_true_eq, h0, h1, if_true, hw]
 ·intro again i hi
  unfold jO
  simp only [Bool.cond_eq_ite, decide_eq_true_eq, if_neg hi]
 ·cases Yq (y3R id) ks 0 <;> rfl
def y3x (q : List Int) (t : List y0) (l : List y9) (vs : List ye) (_ : Int) (_ : Unit) (step : Int) : Except (Option (Int × Int)) Unit :=
 if zF (zg q t l vs step) (yb t) 0 < 0 then .ok () else .error (some (step, zF (zg q t l vs step) (yb t) 0))
def qY (t : List y0) (l : List y9) (vs : List ye) : Int × Int :=
 if zF (yce (yb t) l vs) l 0 < 0 then (0, 0) else (4, zF (yce (yb t) l vs) l 0)
def y12 (q : List Int) (t : List y0) (l : List y9) (cs : List y8) (vs : List ye) (z : Int) : Option (Int × Int) :=
 if yo q t l cs vs z = true then y91 (y3x q t l vs) (fun _ => some (qY t l vs)) ([1, 2, 3] : List Int) 0 () else some (0, 0)
theorem yn8 (i : Int) (h0 : 0 ≤ i) (h1 : i < 3) : ([1, 2, 3] : List Int).getD i.toNat 0 = i + 1 := by
 have : i = 0 ∨ i = 1 ∨ i = 2 := by omega
 rcases this with rfl | rfl | rfl <;> rfl
theorem ya6 (ht : TOk t) (hq : q.length ≤ 1048576) (hl : l.length ≤ 1048576) (hc : cs.length ≤ 1048576) (hv : vs.length ≤ 1048576) (hvn : ∀ v ∈ vs, ByteArray.size v.1 ≤ maxLen) : Jn (q, t, l, cs, vs, z) = y12 q t l cs vs z := by
 unfold Jn y12
 have hk := ht.keys
 have e : yP (q, t) = some (yb t) := YJ q t (by have := ht.len; omega) ht.nodes ht.sum
 simp only [y1n q t l cs vs z ht hl hc hv hvn, e, Option.bind_some]
 cases hp : yo q t l cs vs z
 ·rfl
 have hpos : ∀ a ∈ l, 1 ≤ a.1 := by
  refine yiI ?_
  unfold yo at hp
  simp only [Bool.and_eq_true] at hp
  exact hp.2.1
 simp only [Bool.not_true, cond_false, if_true]
 unfold qo
 refine y4T (step := ZV _ _) (fun i (_ : Unit) => (i + 1, q, t, l, cs, vs, z, yb t)) (y3x q t l vs) (fun _ => some (qY t l vs)) 0 ([1, 2, 3] : List Int) (by decide) (fun _ _ => True) (fun again i s h0 h1 _ => ⟨?_, fun _ _ => trivial⟩) ?_ () trivial
 ·have h1' : i < 3 := h1
  rw [yn8 i h0 h1']
  have hw : Go.IntKind.wrap .i64 (i + 1 + 1) = i + 1 + 1 := w64 (by omega) (by omega)
  unfold ZV y3x
  have hle : i + 1 ≤ 3 := by omega
  simp only [Bool.cond_eq_ite, decide_eq_true_eq, hle, if_true]
  unfold qn
  refine (YA (step := ZU _ _) (fun j => (i + 1, j, q, t, l, cs, vs, z, yb t)) (zg q t l vs (i + 1)) (fun j => some (i + 1, j)) (again (i + 1 + 1, q, t, l, cs, vs, z, yb t)) yF (yb t) (by omega) ?_ ?_).trans ?_
  ·intro again' j j0 j1
   have hwj : Go.IntKind.wrap .i64 (j + 1) = j + 1 := w64 (by omega) (by omega)
   unfold ZU
   obtain ⟨⟨x1, x2, x3, x4, x5⟩, hx⟩ : ∃ x, y6 (yb t) j = x := ⟨_, rfl⟩
   have hx' : (yb t).getD j.toNat yF = (x1, x2, x3, x4, x5) := hx
   rw [hx']
   simp only [Bool.cond_eq_ite, decide_eq_true_eq, j0, j1, if_true, hwj, hx, y5d q t l cs vs z ht hq hl hv hpos (i + 1) x1 x2 x3 x4 x5, Option.bind_some]
  ·intro again' j hj
   unfold ZU
   simp only [Bool.cond_eq_ite, decide_eq_true_eq, if_neg hj, hw]
  ·split <;> rfl
 ·intro again i s hi
  have hi' : ¬ i < 3 := hi
  have hle : ¬ i + 1 ≤ 3 := by omega
  unfold ZV
  simp only [Bool.cond_eq_ite, decide_eq_true_eq, if_neg hle]
  unfold VA qY
  refine (YA (step := Zo _ _) (fun j => (j, q, t, l, cs, vs, z)) (yce (yb t) l vs) (fun j => some (4, j)) (some (0, 0)) yy l (by omega) ?_ ?_).trans ?_
  ·intro again' j j0 j1
   have hwj : Go.IntKind.wrap .i64 (j + 1) = j + 1 := w64 (by omega) (by omega)
   unfold Zo
   have hx : l.getD j.toNat yy = yA l j := rfl
   rw [hx]
   simp only [Bool.cond_eq_ite, decide_eq_true_eq, j0, j1, if_true, hwj, ycf q t l cs vs z ht hl hv (yA l j), Option.bind_some]
  ·intro again' j hj
   unfold Zo
   simp only [Bool.cond_eq_ite, decide_eq_true_eq, if_neg hj]
  ·split <;> rfl
theorem y3y (ht : TOk t) (hq : q.length ≤ 1048576) (hl : l.length ≤ 1048576) (hc : cs.length ≤ 1048576) (hv : vs.length ≤ 1048576) (hvn : ∀ v ∈ vs, ByteArray.size v.1 ≤ maxLen) : Z5 (q, t, l, cs, vs, z) = y12 q t l cs vs z := by
 unfold Z5 y12
 have hk := ht.keys
 have e : yT (q, t) = some (yb t) := Zf q t (by have := ht.len; omega) ht.nodes ht.sum
 simp only [y1o q t l cs vs z ht hl hc hv hvn, e, Option.bind_some]
 cases hp : yo q t l cs vs z
 ·rfl
 simp only [Bool.not_true, cond_false, if_true]
 unfold qt
 refine y4T (step := j9 _ _) (fun i (_ : Unit) => (3, i, q, t, l, cs, vs, z, yb t, [1, 2, 3])) (y3x q t l vs) (fun _ => some (qY t l vs)) 0 ([1, 2, 3] : List Int) (by decide) (fun _ _ => True) (fun again i s h0 h1 _ => ⟨?_, fun _ _ => trivial⟩) ?_ () trivial
 ·have h1' : i < 3 := h1
  have hx : zu ([1, 2, 3] : List Int) i = i + 1 := yn8 i h0 h1'
  have h1'' : i < ((([1, 2, 3] : List Int).length : Nat) : Int) := h1
  rw [yn8 i h0 h1']
  have hw : Go.IntKind.wrap .i64 (i + 1) = i + 1 := w64 (by omega) (by omega)
  unfold j9 y3x
  simp only [Bool.cond_eq_ite, decide_eq_true_eq, h0, h1', h1'', hx, if_true]
  unfold qs
  refine (YA (step := j8 _ _) (fun j => (i + 1, 3, i, ((yb t).length : Int), j, q, t, l, cs, vs, z, yb t, [1, 2, 3])) (zg q t l vs (i + 1)) (fun j => some (i + 1, j)) (again (3, i + 1, q, t, l, cs, vs, z, yb t, [1, 2, 3])) yF (yb t) (by omega) ?_ ?_).trans ?_
  ·intro again' j j0 j1
   have hwj : Go.IntKind.wrap .i64 (j + 1) = j + 1 := w64 (by omega) (by omega)
   unfold j8
   obtain ⟨⟨x1, x2, x3, x4, x5⟩, hx⟩ : ∃ x, y6 (yb t) j = x := ⟨_, rfl⟩
   have hx' : (yb t).getD j.toNat yF = (x1, x2, x3, x4, x5) := hx
   rw [hx']
   simp only [Bool.cond_eq_ite, decide_eq_true_eq, j0, j1, if_true, hwj, hx, y5e q t l cs vs z ht hq hl hv (i + 1) x1 x2 x3 x4 x5, Option.bind_some]
  ·intro again' j hj
   unfold j8
   simp only [Bool.cond_eq_ite, decide_eq_true_eq, if_neg hj, hw]
  ·split <;> rfl
 ·intro again i s hi
  have hi' : ¬ i < 3 := hi
  unfold j9
  simp only [Bool.cond_eq_ite, decide_eq_true_eq, if_neg hi']
  unfold VE qY
  refine (YA (step := Zv _ _) (fun j => (l, (l.length : Int), j, q, t, l, cs, vs, z, yb t)) (yce (yb t) l vs) (fun j => some (4, j)) (some (0, 0)) yy l (by omega) ?_ ?_).trans ?_
  ·intro again' j j0 j1
   have hwj : Go.IntKind.wrap .i64 (j + 1) = j + 1 := w64 (by omega) (by omega)
   unfold Zv yce
   have hx : l.getD j.toNat yy = yA l j := rfl
   rw [hx]
   simp only [Bool.cond_eq_ite, decide_eq_true_eq, j0, j1, if_true, hwj, VF q t l cs vs z _ hv, J0 l _ hl, y5f (yb t) _ hk, Option.bind_some]
   cases v5 vs (yA l j).1 <;> cases Yq (y3R (yA l j).1) (yb t) 0 <;> by_cases hkk : ((yQ l (yA l j).1).length : Int) ≤ 1 <;> simp [hkk]
  ·intro again' j hj
   unfold Zv
   simp only [Bool.cond_eq_ite, decide_eq_true_eq, if_neg hj]
  ·split <;> rfl
theorem ya7 {S A R : Type} (g : Int → S → A → Except (Option R) S) (k : S → Option R) (hg : ∀ i s a r, g i s a = .error r → ∃ x, r = some x) (hk : ∀ s, ∃ x, k s = some x) : ∀ (l : List A) (i : Int) (s : S), ∃ x, y91 g k l i s = some x
 | [], i, s => hk s
 | a :: l, i, s => by
  rw [y91]
  cases h : g i s a with
  | error r => exact hg i s a r h
  | ok s' => exact ya7 g k hg hk l (i + 1) s'
theorem y6E : ∃ r, y12 q t l cs vs z = some r := by
 unfold y12
 split
 ·refine ya7 _ _ (fun i s a r h => ?_) (fun s => ⟨_, rfl⟩) _ _ _
  unfold y3x at h
  split at h
  ·cases h
  ·injection h with h
   exact ⟨_, h.symm⟩
 ·exact ⟨_, rfl⟩
end
end Go.Proofs.YtjllpipmaejeoaaGreat.Pl
namespace Go.Proofs.YtjllpipmaejeoaaGreat.Pl
open Go.Proofs.YtjllpipmaejeoaaGreat.R Go.Proofs.YtjllpipmaejeoaaGreat.XW
structure SP (q : List yc) (t : List y0) (l : List y9) (cs : List y8) (vs : List ye) : Prop where
 S : small q t l cs vs
 N : ∀ v ∈ vs, ByteArray.size v.1 ≤ maxLen
structure TQ (q : List yc) (t : List y0) : Prop where
 T : TOk t
 Q : ∀ n ∈ t, y3P n
 q : q.length ≤ 1048576
theorem SP.tq {q : List yc} {t : List y0} {l : List y9} {cs : List y8} {vs : List ye} (h : SP q t l cs vs) : TQ q t :=
 ⟨⟨h.S.2.1, fun n hn => by have := (qx h.S.2.2.1 hn).1; omega, h.S.2.2.1⟩, fun n hn => qx h.S.2.2.1 hn, h.S.1⟩
theorem TQ.sp {q q' : List yc} {t t' : List y0} {l l' : List y9} {cs cs' : List y8} {vs : List ye} (h : TQ q' t') (h2 : SP q t l cs vs) (hl : l'.length ≤ 1048576) (hc : cs'.length ≤ 1048576) : SP q' t' l' cs' vs :=
 ⟨⟨h.q, h.T.len, h.T.sum, hl, hc, h2.S.2.2.2.2.2⟩, h2.N⟩
theorem TS.tq {q : List yc} {t : List y0} (h : TS t) (hq : q.length ≤ 1048576) : TQ q t := ⟨h.ok, fun n hn => (h.node n hn).q, hq⟩
theorem Kc {q : List yc} {t : List y0} (k : y7) (h : TQ q t) : TQ (yl q t k).1 (yl q t k).2.1 := by
 unfold yl
 split
 ·rename_i hh
  rw [Bool.and_eq_true] at hh
  split
  ·rename_i hj
   have hT := y2q hj
   have := (jR hj)
   exact hT.tq (by simp only; omega)
  ·exact h
 ·exact h
def jg (k : y7) : y7 := (k.1, k.2.1, 0, 0, 0)
def jy (q : List yc) (t : List y0) (cs : List y8) (k : y7) : List y8 := if (YT q t k.1 k.2.1).2.2.2.2.2 = true ∧ (YT q t k.1 k.2.1).2.2.1 = 1 then y11 cs (YT q t k.1 k.2.1).2.2.2.1 else cs
theorem qZ (q : List yc) (t : List y0) (cs : List y8) (k : y7) : (jy q t cs k).length = cs.length := by
 unfold jy
 split
 ·exact y5b _ _
 ·rfl
abbrev PO : Type := List yc × List y0 × List y9 × List y8 × List ye × Int
section
variable (q : List yc) (t : List y0) (l : List y9) (cs : List y8) (vs : List ye) (z : Int)
def Yk (t : List y0) (i : Int) : y7 := (yb t).getD i.toNat yF
def Yb (step i : Int) : PO × Bool :=
 if step = 1 ∨ step = 2 then (((yl q t (jg (Yk t i))).1, (yl q t (jg (Yk t i))).2.1, l, jy q t cs (Yk t i), vs, z), (yl q t (jg (Yk t i))).2.2)
 else if step = 3 then
  (((yl (yl q t (jg (Yk t i))).1 (yl q t (jg (Yk t i))).2.1 ((Yk t i).1, (yQ l (Yk t i).2.1).getD 0 0, (Yk t i).2.2)).1,
   (yl (yl q t (jg (Yk t i))).1 (yl q t (jg (Yk t i))).2.1 ((Yk t i).1, (yQ l (Yk t i).2.1).getD 0 0, (Yk t i).2.2)).2.1, l, cs, vs, z),
   (yl q t (jg (Yk t i))).2.2 && (yl (yl q t (jg (Yk t i))).1 (yl q t (jg (Yk t i))).2.1 ((Yk t i).1, (yQ l (Yk t i).2.1).getD 0 0, (Yk t i).2.2)).2.2)
 else ((q, t, (y0w l (l.getD i.toNat yy).1).1, cs, vs, z), (y0w l (l.getD i.toNat yy).1).2)
noncomputable def y0x (p : PO) : Bool := yo p.1 p.2.1 p.2.2.1 p.2.2.2.1 p.2.2.2.2.1 p.2.2.2.2.2
noncomputable def yaY (p : PO) (r : PO × Bool) : PO × Bool := if (r.2 && y0x r.1) = true then (r.1, true) else (p, false)
noncomputable def wM : PO × Bool := match y12 q t l cs vs z with
 | some (step, i) => if step = 0 then ((q, t, l, cs, vs, z), false) else yaY (q, t, l, cs, vs, z) (Yb q t l cs vs z step i)
 | none => ((q, t, l, cs, vs, z), false)
def y2t (r : PO × Bool) : List yc × List y0 × List y9 × List y8 × List ye × Int × Bool := (r.1.1, r.1.2.1, r.1.2.2.1, r.1.2.2.2.1, r.1.2.2.2.2.1, r.1.2.2.2.2.2, r.2)
theorem y6F {step i : Int} (h : y12 q t l cs vs z = some (step, i)) : step = 0 ∨ ((step = 1 ∨ step = 2 ∨ step = 3) ∧ 0 ≤ i ∧ i < ((yb t).length : Int) ∧ zg q t l vs step (Yk t i) = true) ∨ (step = 4 ∧ 0 ≤ i ∧ i < (l.length : Int)) := by
 have hfind : ∀ s, (s = 1 ∨ s = 2 ∨ s = 3) → ¬ zF (zg q t l vs s) (yb t) 0 < 0 → (step, i) = (s, zF (zg q t l vs s) (yb t) 0) → step = 0 ∨ ((step = 1 ∨ step = 2 ∨ step = 3) ∧ 0 ≤ i ∧ i < ((yb t).length : Int) ∧ zg q t l vs step (Yk t i) = true) ∨ (step = 4 ∧ 0 ≤ i ∧ i < (l.length : Int)) := by
  intro s hs h0 he
  injection he with h1 h2
  subst h1 h2
  rcases Yc (zg q t l vs step) yF (yb t) 0 (Int.le_refl _) with h | ⟨h1, h2, h3⟩
  ·omega
  ·rw [Int.sub_zero] at h3
   exact .inr (.inl ⟨hs, h1, by omega, h3⟩)
 unfold y12 at h
 split at h
 ·simp only [y91, y3x] at h
  by_cases h1 : zF (zg q t l vs 1) (yb t) 0 < 0
  ·simp only [if_pos h1] at h
   by_cases h2 : zF (zg q t l vs 2) (yb t) 0 < 0
   ·simp only [if_pos h2] at h
    by_cases h3 : zF (zg q t l vs 3) (yb t) 0 < 0
    ·simp only [if_pos h3] at h
     injection h with h
     unfold qY at h
     split at h
     ·injection h with h4 h5
      exact .inl h4.symm
     ·rename_i h4
      injection h with h5 h6
      rcases y4e (yce (yb t) l vs) l 0 with h | ⟨h7, h8⟩
      ·omega
      ·exact .inr (.inr ⟨h5.symm, by omega, by omega⟩)
    ·simp only [if_neg h3] at h
     injection h with h
     exact hfind 3 (by simp) h3 h.symm
   ·simp only [if_neg h2] at h
    injection h with h
    exact hfind 2 (by simp) h2 h.symm
  ·simp only [if_neg h1] at h
   injection h with h
   exact hfind 1 (by simp) h1 h.symm
 ·injection h with h
  injection h with h1 h2
  exact .inl h1.symm
variable {q t l cs vs} (h : SP q t l cs vs)
include h
theorem y5g (step i : Int) : SP (Yb q t l cs vs z step i).1.1 (Yb q t l cs vs z step i).1.2.1 (Yb q t l cs vs z step i).1.2.2.1 (Yb q t l cs vs z step i).1.2.2.2.1 (Yb q t l cs vs z step i).1.2.2.2.2.1 := by
 have hl := h.S.2.2.2.1
 have hc := h.S.2.2.2.2.1
 unfold Yb
 split
 ·exact (Kc _ h.tq).sp h hl (by rw [qZ]; exact hc)
 ·split
  ·exact (Kc _ (Kc _ h.tq)).sp h hl hc
  ·refine h.tq.sp h ?_ hc
   unfold y0w
   split
   ·exact hl
   ·split
    ·unfold y3v
     exact Nat.le_trans (List.length_eraseIdx_le _ _) (by simpa using hl)
    ·exact hl
theorem yiJ : SP (wM q t l cs vs z).1.1 (wM q t l cs vs z).1.2.1 (wM q t l cs vs z).1.2.2.1 (wM q t l cs vs z).1.2.2.2.1 (wM q t l cs vs z).1.2.2.2.2.1 := by
 unfold wM
 split
 ·split
  ·exact h
  ·unfold yaY
   split
   ·exact y5g z h _ _
   ·exact h
 ·exact h
theorem ya8 (a b c d e : Int) : ZH (q, t, l, cs, vs, z, a, b, c, d, e) = some (if (yl q t (a, b, 0, 0, 0)).2.2 = true then (true, (yl q t (a, b, 0, 0, 0)).1, (yl q t (a, b, 0, 0, 0)).2.1, l, jy q t cs (a, b, c, d, e), vs, z) else (false, q, t, l, cs, vs, z)) := by
 have hq := h.tq
 unfold ZH zL
 simp only [Kq q t a b hq.T hq.q, JL q t a b 0 0 0 hq.T hq.Q hq.q, Option.bind_some]
 cases hr : (yl q t (a, b, 0, 0, 0)).2.2 with
 | false => rfl
 | true =>
  unfold wA jy
  simp only [Bool.not_true, cond_false, if_true, v8 cs _ h.S.2.2.2.2.1, Option.bind_some]
  cases (YT q t a b).2.2.2.2.2 with
  | false => rfl
  | true =>
   by_cases h1 : (YT q t a b).2.2.1 = 1
   ·rw [if_pos ⟨rfl, h1⟩]
    simp only [h1, cond_true, Option.bind_some, beq_self_eq_true]
   ·rw [if_neg fun hh => h1 hh.2]
    simp only [cond_true, Option.bind_some, beq_eq_false_iff_ne.2 h1, cond_false]
theorem y5V (a b c d e : Int) : Y9 (q, t, l, cs, vs, z, a, b, 0, 0, 0) = some ((yl q t (a, b, 0, 0, 0)).2.2, (yl q t (a, b, 0, 0, 0)).1, (yl q t (a, b, 0, 0, 0)).2.1, l, if (yl q t (a, b, 0, 0, 0)).2.2 = true then jy q t cs (a, b, c, d, e) else cs, vs, z) := by
 have hq := h.tq
 unfold Y9
 simp only [y1p q t a b hq.T hq.q, Vh q t a b 0 0 0 hq.T hq.Q hq.q, Option.bind_some]
 cases hr : (yl q t (a, b, 0, 0, 0)).2.2 with
 | false => rfl
 | true =>
  unfold jy
  simp only [cond_true, if_true, Option.bind_some, y3Q cs _ h.S.2.2.2.2.1]
  cases (YT q t a b).2.2.2.2.2 with
  | false => rfl
  | true =>
   by_cases h1 : (YT q t a b).2.2.1 = 1
   ·rw [if_pos ⟨rfl, h1⟩]
    simp only [h1, cond_true, Option.bind_some, beq_self_eq_true]
   ·rw [if_neg fun hh => h1 hh.2]
    simp only [cond_true, Option.bind_some, beq_eq_false_iff_ne.2 h1, cond_false]
theorem ZL : yL (q, t, l, cs, vs, z) = some (yo q t l cs vs z) := y1n q t l cs vs z h.tq.T h.S.2.2.2.1 h.S.2.2.2.2.1 h.S.2.2.2.2.2 h.N
theorem y1q : Yw (q, t, l, cs, vs, z) = some (yo q t l cs vs z) := y1o q t l cs vs z h.tq.T h.S.2.2.2.1 h.S.2.2.2.2.1 h.S.2.2.2.2.2 h.N
end
end Go.Proofs.YtjllpipmaejeoaaGreat.Pl
namespace Go.Proofs.YtjllpipmaejeoaaGreat.Pl
open Go.Proofs.YtjllpipmaejeoaaGreat.R Go.Proofs.YtjllpipmaejeoaaGreat.XW
theorem ya9 : (((0 : Int)) == 0) = true := rfl
theorem yaa : (((0 : Int)) == 1) = false := rfl
theorem yab : (((0 : Int)) == 2) = false := rfl
theorem yac : (((0 : Int)) == 3) = false := rfl
theorem yad : (((0 : Int)) == 4) = false := rfl
theorem yae : (((1 : Int)) == 0) = false := rfl
theorem yaf : (((1 : Int)) == 1) = true := rfl
theorem yag : (((1 : Int)) == 2) = false := rfl
theorem yah : (((1 : Int)) == 3) = false := rfl
theorem yai : (((1 : Int)) == 4) = false := rfl
theorem yaj : (((2 : Int)) == 0) = false := rfl
theorem yak : (((2 : Int)) == 1) = false := rfl
theorem yal : (((2 : Int)) == 2) = true := rfl
theorem yam : (((2 : Int)) == 3) = false := rfl
theorem yan : (((2 : Int)) == 4) = false := rfl
theorem yao : (((3 : Int)) == 0) = false := rfl
theorem yap : (((3 : Int)) == 1) = false := rfl
theorem yaq : (((3 : Int)) == 2) = false := rfl
theorem yar : (((3 : Int)) == 3) = true := rfl
theorem yas : (((3 : Int)) == 4) = false := rfl
theorem yat : (((4 : Int)) == 0) = false := rfl
theorem yau : (((4 : Int)) == 1) = false := rfl
theorem yav : (((4 : Int)) == 2) = false := rfl
theorem yaw : (((4 : Int)) == 3) = false := rfl
theorem yax : (((4 : Int)) == 4) = true := rfl
theorem yke : (((0 : Int)) != 0) = false := rfl
theorem y3z : (((0 : Int)) != 3) = true := rfl
theorem ykf : (((1 : Int)) != 0) = true := rfl
theorem y3A : (((1 : Int)) != 3) = true := rfl
theorem ykg : (((2 : Int)) != 0) = true := rfl
theorem y3B : (((2 : Int)) != 3) = true := rfl
theorem ykh : (((3 : Int)) != 0) = true := rfl
theorem y3C : (((3 : Int)) != 3) = false := rfl
theorem yki : (((4 : Int)) != 0) = true := rfl
theorem y3D : (((4 : Int)) != 3) = true := rfl
section
variable {q : List yc} {t : List y0} {l : List y9} {cs : List y8} {vs : List ye} (z : Int) (h : SP q t l cs vs)
theorem y8N {q' : List yc} {t' : List y0} {l' : List y9} {cs' : List y8} (ok : Bool) (h' : SP q' t' l' cs' vs) : (Option.bind (bif (!ok) then some true else Option.bind (yL (q', t', l', cs', vs, z)) fun r6 => some (!r6)) fun u5 => bif u5 then some (q, t, l, cs, vs, z, false) else some (q', t', l', cs', vs, z, true)) = some (y2t (yaY (q, t, l, cs, vs, z) ((q', t', l', cs', vs, z), ok))) := by
 rw [ZL z h']
 unfold yaY y0x y2t
 cases ok with
 | false => rfl
 | true =>
  simp only [Option.bind_some, Bool.not_true, cond_false, Bool.true_and]
  cases yo q' t' l' cs' vs z <;> rfl
theorem y8O {q' : List yc} {t' : List y0} {l' : List y9} {cs' : List y8} (ok : Bool) (h' : SP q' t' l' cs' vs) : (Option.bind (bif (!ok) then some true else Option.bind (Yw (q', t', l', cs', vs, z)) fun r6 => some (!r6)) fun u5 => bif u5 then some (q, t, l, cs, vs, z, false) else some (q', t', l', cs', vs, z, true)) = some (y2t (yaY (q, t, l, cs, vs, z) ((q', t', l', cs', vs, z), ok))) := by
 rw [y1q z h']
 unfold yaY y0x y2t
 cases ok with
 | false => rfl
 | true =>
  simp only [Option.bind_some, Bool.not_true, cond_false, Bool.true_and]
  cases yo q' t' l' cs' vs z <;> rfl
include h
theorem y32 : Ye (q, t, l, cs, vs, z) = some (y2t (wM q t l cs vs z)) := by
 have hq := h.tq
 have hl := h.S.2.2.2.1
 have hc := h.S.2.2.2.2.1
 have hv := h.S.2.2.2.2.2
 obtain ⟨⟨step, i⟩, hn⟩ := y6E q t l cs vs z
 have eK : yP (q, t) = some (yb t) := YJ q t (by have := hq.T.len; omega) hq.T.nodes hq.T.sum
 unfold Ye
 simp only [kz q t l cs vs z h.S, ya6 q t l cs vs z hq.T hq.q hl hc hv h.N, hn, eK, Option.bind_some]
 have hp : wM q t l cs vs z = if step = 0 then ((q, t, l, cs, vs, z), false) else yaY (q, t, l, cs, vs, z) (Yb q t l cs vs z step i) := by
  unfold wM
  rw [hn]
 have erd : y6 (yb t) i = Yk t i := rfl
 have h12 : ∀ s : Int, s = 1 ∨ s = 2 → (Option.bind (ZH (q, t, l, cs, vs, z, (Yk t i).1, (Yk t i).2.1, (Yk t i).2.2.1, (Yk t i).2.2.2.1, (Yk t i).2.2.2.2)) fun r4 => Option.bind (bif (!r4.1) then some true else Option.bind (yL (r4.2.1, r4.2.2.1, r4.2.2.2.1, r4.2.2.2.2.1, r4.2.2.2.2.2.1, r4.2.2.2.2.2.2)) fun r6 => some (!r6)) fun u5 => bif u5 then some (q, t, l, cs, vs, z, false) else some (r4.2.1, r4.2.2.1, r4.2.2.2.1, r4.2.2.2.2.1, r4.2.2.2.2.2.1, r4.2.2.2.2.2.2, true)) = some (y2t (yaY (q, t, l, cs, vs, z) (Yb q t l cs vs z s i))) := by
  intro s hs
  have hT := y5g z h s i
  unfold Yb at hT ⊢
  rw [if_pos hs] at hT ⊢
  rw [ya8 z h]
  change Option.bind (some (if (yl q t (jg (Yk t i))).2.2 = true then _ else _)) _ = _
  cases hr : (yl q t (jg (Yk t i))).2.2 with
  | false => rfl
  | true => exact y8N z true hT
 rcases y6F q t l cs vs z hn with rfl | ⟨hs, i0, i1, hk⟩ | ⟨rfl, i0, i1⟩
 ·rw [hp, if_pos rfl]
  rfl
 ·rcases hs with rfl | rfl | rfl
  ·rw [hp, if_neg (show ¬ ((1 : Int) = 0) by decide)]
   simp only [ya9, yaa, yab, yac, yad, yae, yaf, yag, yah, yai, yaj, yak, yal, yam, yan, yao, yap, yaq, yar, yas, yat, yau, yav, yaw, yax, yke, y3z, ykf, y3A, ykg, y3B, ykh, y3C, yki, y3D, cond_true, cond_false, erd]
   rw [if_pos i0, if_pos i1]
   exact h12 1 (.inl rfl)
  ·rw [hp, if_neg (show ¬ ((2 : Int) = 0) by decide)]
   simp only [ya9, yaa, yab, yac, yad, yae, yaf, yag, yah, yai, yaj, yak, yal, yam, yan, yao, yap, yaq, yar, yas, yat, yau, yav, yaw, yax, yke, y3z, ykf, y3A, ykg, y3B, ykh, y3C, yki, y3D, cond_true, cond_false, erd]
   rw [if_pos i0, if_pos i1]
   exact h12 2 (.inr rfl)
  ·rw [hp, if_neg (show ¬ ((3 : Int) = 0) by decide)]
   have hT := y5g z h 3 i
   unfold Yb at hT ⊢
   rw [if_neg (show ¬ ((3 : Int) = 1 ∨ (3 : Int) = 2) by decide), if_pos (show (3 : Int) = 3 from rfl)] at hT ⊢
   simp only [ya9, yaa, yab, yac, yad, yae, yaf, yag, yah, yai, yaj, yak, yal, yam, yan, yao, yap, yaq, yar, yas, yat, yau, yav, yaw, yax, yke, y3z, ykf, y3A, ykg, y3B, ykh, y3C, yki, y3D, cond_true, cond_false, erd]
   rw [if_pos i0, if_pos i1]
   obtain ⟨⟨a, b, c, d, e⟩, hx⟩ : ∃ x, Yk t i = x := ⟨_, rfl⟩
   rw [hx] at hk hT ⊢
   have h1 := Kc (a, b, 0, 0, 0) hq
   have hone : v5 vs b = true ∧ ((yQ l b).length : Int) = 1 := by
    unfold zg y3w at hk
    rw [if_neg (show ¬ (3 : Int) = 1 by decide), if_neg (show ¬ (3 : Int) = 2 by decide)] at hk
    simp only [Bool.and_eq_true, beq_iff_eq] at hk
    exact hk.1
   have eKid : Zn (q, t, l, cs, vs, z, b) = some ((yQ l b).getD 0 0) := by
    unfold Zn
    simp only [Kp l b hl, y0m q t l cs vs z b hv, hone.1, Bool.not_true, cond_false, Option.bind_some]
    rw [show (((List.length (yQ l b) : Nat) : Int) != 1) = false by rw [hone.2]; rfl, cond_false, if_pos (by omega), if_pos (by omega)]
    rfl
   simp only [jg] at hT ⊢
   simp only [JL q t a b 0 0 0 hq.T hq.Q hq.q, eKid, Option.bind_some]
   rw [JL _ _ a ((yQ l b).getD 0 0) c d e h1.T h1.Q h1.q]
   simp only [Option.bind_some]
   cases (yl q t (a, b, 0, 0, 0)).2.2 with
   | false => rfl
   | true =>
    simp only [cond_true, Option.bind_some, Bool.true_and]
    exact y8N z _ hT
 ·rw [hp, if_neg (show ¬ ((4 : Int) = 0) by decide)]
  have hT := y5g z h 4 i
  unfold Yb at hT ⊢
  rw [if_neg (show ¬ ((4 : Int) = 1 ∨ (4 : Int) = 2) by decide), if_neg (show ¬ (4 : Int) = 3 by decide)] at hT ⊢
  simp only [ya9, yaa, yab, yac, yad, yae, yaf, yag, yah, yai, yaj, yak, yal, yam, yan, yao, yap, yaq, yar, yas, yat, yau, yav, yaw, yax, yke, y3z, ykf, y3A, ykg, y3B, ykh, y3C, yki, y3D, cond_true, cond_false]
  rw [if_pos i0, if_pos i1, y5T l _ hl]
  simp only [Option.bind_some]
  exact y8N z _ hT
theorem y33 : Yg (q, t, l, cs, vs, z) = some (y2t (wM q t l cs vs z)) := by
 have hq := h.tq
 have hl := h.S.2.2.2.1
 have hc := h.S.2.2.2.2.1
 have hv := h.S.2.2.2.2.2
 obtain ⟨⟨step, i⟩, hn⟩ := y6E q t l cs vs z
 have eK : yT (q, t) = some (yb t) := Zf q t (by have := hq.T.len; omega) hq.T.nodes hq.T.sum
 unfold Yg
 simp only [Qp q t l cs vs z h.S, y3y q t l cs vs z hq.T hq.q hl hc hv h.N, hn, Option.bind_some]
 have hp : wM q t l cs vs z = if step = 0 then ((q, t, l, cs, vs, z), false) else yaY (q, t, l, cs, vs, z) (Yb q t l cs vs z step i) := by
  unfold wM
  rw [hn]
 have erd : y6 (yb t) i = Yk t i := rfl
 have h12 : ∀ s : Int, s = 1 ∨ s = 2 → (Option.bind (Option.bind (Y9 (q, t, l, cs, vs, z, (Yk t i).1, (Yk t i).2.1, (0 : Int), (0 : Int), (0 : Int))) fun r3 => some (r3.1, r3.2.1, r3.2.2.1, r3.2.2.2.1, r3.2.2.2.2.1, r3.2.2.2.2.2.1, r3.2.2.2.2.2.2)) fun r3 => Option.bind (bif (!r3.1) then some true else Option.bind (Yw (r3.2.1, r3.2.2.1, r3.2.2.2.1, r3.2.2.2.2.1, r3.2.2.2.2.2.1, r3.2.2.2.2.2.2)) fun r5 => some (!r5)) fun u4 => bif u4 then some (q, t, l, cs, vs, z, false) else some (r3.2.1, r3.2.2.1, r3.2.2.2.1, r3.2.2.2.2.1, r3.2.2.2.2.2.1, r3.2.2.2.2.2.2, true)) = some (y2t (yaY (q, t, l, cs, vs, z) (Yb q t l cs vs z s i))) := by
  intro s hs
  have hT := y5g z h s i
  unfold Yb at hT ⊢
  rw [if_pos hs] at hT ⊢
  have e : Y9 (q, t, l, cs, vs, z, (Yk t i).1, (Yk t i).2.1, (0 : Int), (0 : Int), (0 : Int)) = some ((yl q t (jg (Yk t i))).2.2, (yl q t (jg (Yk t i))).1, (yl q t (jg (Yk t i))).2.1, l, if (yl q t (jg (Yk t i))).2.2 = true then jy q t cs (Yk t i) else cs, vs, z) := y5V z h _ _ (Yk t i).2.2.1 (Yk t i).2.2.2.1 (Yk t i).2.2.2.2
  rw [e]
  cases hr : (yl q t (jg (Yk t i))).2.2 with
  | false => rfl
  | true => exact y8O z true hT
 rcases y6F q t l cs vs z hn with rfl | ⟨hs, i0, i1, hk⟩ | ⟨rfl, i0, i1⟩
 ·rw [hp, if_pos rfl]
  rfl
 ·unfold Zx
  simp only [eK, Option.bind_some]
  rcases hs with rfl | rfl | rfl
  ·rw [hp, if_neg (show ¬ ((1 : Int) = 0) by decide)]
   simp only [ya9, yaa, yab, yac, yad, yae, yaf, yag, yah, yai, yaj, yak, yal, yam, yan, yao, yap, yaq, yar, yas, yat, yau, yav, yaw, yax, yke, y3z, ykf, y3A, ykg, y3B, ykh, y3C, yki, y3D, cond_true, cond_false, erd]
   rw [if_pos i0, if_pos i1]
   exact h12 1 (.inl rfl)
  ·rw [hp, if_neg (show ¬ ((2 : Int) = 0) by decide)]
   simp only [ya9, yaa, yab, yac, yad, yae, yaf, yag, yah, yai, yaj, yak, yal, yam, yan, yao, yap, yaq, yar, yas, yat, yau, yav, yaw, yax, yke, y3z, ykf, y3A, ykg, y3B, ykh, y3C, yki, y3D, cond_true, cond_false, erd]
   rw [if_pos i0, if_pos i1]
   exact h12 2 (.inr rfl)
  ·rw [hp, if_neg (show ¬ ((3 : Int) = 0) by decide)]
   have hT := y5g z h 3 i
   unfold Yb at hT ⊢
   rw [if_neg (show ¬ ((3 : Int) = 1 ∨ (3 : Int) = 2) by decide), if_pos (show (3 : Int) = 3 from rfl)] at hT ⊢
   simp only [ya9, yaa, yab, yac, yad, yae, yaf, yag, yah, yai, yaj, yak, yal, yam, yan, yao, yap, yaq, yar, yas, yat, yau, yav, yaw, yax, yke, y3z, ykf, y3A, ykg, y3B, ykh, y3C, yki, y3D, cond_true, cond_false, erd]
   rw [if_pos i0, if_pos i1]
   obtain ⟨⟨a, b, c, d, e⟩, hx⟩ : ∃ x, Yk t i = x := ⟨_, rfl⟩
   rw [hx] at hk hT ⊢
   have h1 := Kc (a, b, 0, 0, 0) hq
   have hone : v5 vs b = true ∧ ((yQ l b).length : Int) = 1 := by
    unfold zg y3w at hk
    rw [if_neg (show ¬ (3 : Int) = 1 by decide), if_neg (show ¬ (3 : Int) = 2 by decide)] at hk
    simp only [Bool.and_eq_true, beq_iff_eq] at hk
    exact hk.1
   simp only [jg] at hT ⊢
   simp only [J0 l b hl, Vh q t a b 0 0 0 hq.T hq.Q hq.q, Option.bind_some]
   rw [if_pos (by omega), if_pos (by omega)]
   cases (yl q t (a, b, 0, 0, 0)).2.2 with
   | false => rfl
   | true =>
    simp only [Bool.not_true, cond_false, Bool.true_and]
    rw [Vh _ _ a (zu (yQ l b) 0) c d e h1.T h1.Q h1.q]
    simp only [Option.bind_some]
    exact y8O z _ hT
 ·unfold Zx
  rw [hp, if_neg (show ¬ ((4 : Int) = 0) by decide)]
  have hT := y5g z h 4 i
  unfold Yb at hT ⊢
  rw [if_neg (show ¬ ((4 : Int) = 1 ∨ (4 : Int) = 2) by decide), if_neg (show ¬ (4 : Int) = 3 by decide)] at hT ⊢
  simp only [ya9, yaa, yab, yac, yad, yae, yaf, yag, yah, yai, yaj, yak, yal, yam, yan, yao, yap, yaq, yar, yas, yat, yau, yav, yaw, yax, yke, y3z, ykf, y3A, ykg, y3B, ykh, y3C, yki, y3D, cond_true, cond_false]
  rw [if_pos i0, if_pos i1, y5U l _ hl]
  simp only [Option.bind_some]
  exact y8O z _ hT
end
end Go.Proofs.YtjllpipmaejeoaaGreat.Pl
