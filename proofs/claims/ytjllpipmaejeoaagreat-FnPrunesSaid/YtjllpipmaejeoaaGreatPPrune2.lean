/- Base, Loops, Keys, Pool, Tree, Seen, Rng, Walk, See, Oks, Whole, Trees, Names, PoolOk, PoolOk2, PoolOk3, PutPool0, SetSrt, Join, CopyPool, Next, NodePut, JoinT, TreePut, KeySem, KeySem2, CutAge, Calm, Prune, Prune2. No condition. -/
import Derived.Test.YtjllpipmaejeoaaGreatDV1
import Derived.Laws.BitsLemmas
set_option linter.all false
namespace Go.Proofs.YtjllpipmaejeoaaGreat.Pl
open Go.Proofs.YtjllpipmaejeoaaGreat.R Go.Proofs.YtjllpipmaejeoaaGreat.XV
theorem ymZ {T R : Type} {step : (T → Option R) → T → Option R} (μ : T → Nat) (inv : T → Prop) (G : T → Option R)
  (h : ∀ again t, inv t → (∀ t', inv t' → μ t' < μ t → again t' = G t') → step again t = G t) : ∀ (n : Nat) (t : T), inv t → μ t < n → zS step n t = G t := by
 intro n
 induction n with
 | zero => intro t _ hn; omega
 | succ n ih =>
  intro t ht hn
  rw [zS]
  exact h _ t ht fun t' ht' hlt => ih t' ht' (by omega)
theorem Zv {T R : Type} {step : (T → Option R) → T → Option R} (μ : T → Nat) (inv : T → Prop) (G : T → Option R)
  (h : ∀ again t, inv t → (∀ t', inv t' → μ t' < μ t → again t' = G t') → step again t = G t) (t : T) (ht : inv t) (hn : μ t < 18446744073709551616) : zS step Y4 t = G t :=
 ymZ μ inv G h Y4 t ht (by rw [y1C]; exact hn)
theorem w64 {n : Int} (h0 : -9223372036854775808 ≤ n) (h1 : n ≤ 9223372036854775807) : Go.IntKind.wrap .i64 n = n := by
 rw [IntKind.wrap_i64]
 omega
def inR (x a b : Int) : Bool := decide (a ≤ x) && decide (x ≤ b)
theorem zv {x a b : Int} : inR x a b = true ↔ a ≤ x ∧ x ≤ b := by simp [inR]
theorem yeo (n : Nat) (h : n < 9223372036854775808) : IntKind.i64.wrap (n : Int) = n := by
 rw [IntKind.wrap_i64]
 omega
theorem yc8 (x : Int) : ((BitVec.ofInt 64 x).toNat : Int) = x % 18446744073709551616 := by
 rw [BitVec.toNat_ofInt]
 omega
theorem yiq (x : Int) (m : Nat) (j : Nat) (hj : j < 63) (hm : m = 2 ^ j - 1) : bits .and .i64 x m = x % (2 ^ j : Nat) := by
 have hd : (2 ^ j : Nat) ∣ 18446744073709551616 := by
  have : (18446744073709551616 : Nat) = 2 ^ j * 2 ^ (64 - j) := by rw [← Nat.pow_add, show j + (64 - j) = 64 by omega]
  rw [this]
  exact Nat.dvd_mul_right _ _
 have hlt : m < 18446744073709551616 := by
  have : 2 ^ j ≤ 2 ^ 64 := Nat.pow_le_pow_right (by omega) (by omega)
  have h1 : 0 < 2 ^ j := Nat.two_pow_pos j
  omega
 have hj63 : 2 ^ j < 9223372036854775808 := by
  have : 2 ^ j ≤ 2 ^ 62 := Nat.pow_le_pow_right (by omega) (by omega)
  omega
 show IntKind.i64.wrap ((BitVec.ofInt 64 x &&& BitVec.ofInt 64 (m : Int)).toNat : Int) = _
 rw [BitVec.toNat_and, BitVec.ofInt_natCast, BitVec.toNat_ofNat, Nat.mod_eq_of_lt hlt, hm, Nat.and_two_pow_sub_one_eq_mod]
 have h2 := Nat.mod_lt (BitVec.ofInt 64 x).toNat (Nat.two_pow_pos j)
 rw [yeo _ (by omega), Int.natCast_emod, yc8]
 exact Int.emod_emod_of_dvd _ (Int.ofNat_dvd.2 hd)
theorem ytP (x : Int) : bits .and .i64 x 255 = x % 256 := yiq x 255 8 (by omega) (by decide)
def isBytes (l : List Int) : Prop := ∀ x ∈ l, 0 ≤ x ∧ x < 256
def by_ (l : List Int) (i : Int) : Int := l.getD i.toNat 0
end Go.Proofs.YtjllpipmaejeoaaGreat.Pl
namespace Go.Proofs.YtjllpipmaejeoaaGreat.Pl
open Go.Proofs.YtjllpipmaejeoaaGreat.R Go.Proofs.YtjllpipmaejeoaaGreat.XV
theorem wQ {T R : Type} {step : (T → Option R) → T → Option R} (μ : T → Nat) (inv : T → Prop) (Q : T → Option R → Prop)
  (h : ∀ again t, inv t → (∀ t', inv t' → μ t' < μ t → Q t' (again t')) → Q t (step again t)) (t : T) (ht : inv t) (hn : μ t < 18446744073709551616) : Q t (zS step Y4 t) := by
 have key : ∀ (n : Nat) (t : T), inv t → μ t < n → Q t (zS step n t) := by
  intro n
  induction n with
  | zero => intro t _ hn; omega
  | succ n ih =>
   intro t ht hn
   rw [zS]
   exact h _ t ht fun t' ht' hlt => ih t' ht' (by omega)
 exact key Y4 t ht (by rw [y1C]; exact hn)
theorem y8H {A : Type} (da : A) (l : List A) (i : Int) (h0 : 0 ≤ i) (h : i < l.length) : l.getD i.toNat da = l[i.toNat]'(by omega) := by
 rw [List.getD_eq_getElem?_getD, List.getElem?_eq_getElem (by omega)]
 rfl
theorem yW {A : Type} (da : A) (l : List A) (i : Int) (h0 : 0 ≤ i) (h : i < l.length) : l.getD i.toNat da ∈ l := by
 rw [y8H da l i h0 h]
 exact List.getElem_mem _
theorem JO {A : Type} (da : A) (l : List A) (i : Int) (h0 : 0 ≤ i) (h : i < l.length) : l.drop i.toNat = l.getD i.toNat da :: l.drop (i + 1).toNat := by
 rw [y8H da l i h0 h, show (i + 1).toNat = i.toNat + 1 by omega, ← List.drop_eq_getElem_cons]
def kt {A : Type} (w : A → Int) (l : List A) : Int := l.foldr (fun a s => w a + s) 0
theorem Yj {A : Type} (w : A → Int) (a : A) (l : List A) : kt w (a :: l) = w a + kt w l := rfl
theorem y0T {A : Type} {w : A → Int} (hw : ∀ a, 0 ≤ w a) : ∀ {l : List A} {a : A}, a ∈ l → w a ≤ kt w l ∧ 0 ≤ kt w l
 | b :: l, a, h => by
  have hs : 0 ≤ kt w l := by
   clear h
   induction l with
   | nil => exact Int.le_refl _
   | cons c l ih => rw [Yj]; have := hw c; omega
  rw [Yj]
  have := hw b
  rcases List.mem_cons.1 h with rfl | h
  ·omega
  ·have := (y0T hw h).1
   omega
theorem W6 {A : Type} {w : A → Int} (hw : ∀ a, 0 ≤ w a) (l : List A) : 0 ≤ kt w l := by
 induction l with
 | nil => exact Int.le_refl _
 | cons c l ih => rw [Yj]; have := hw c; omega
end Go.Proofs.YtjllpipmaejeoaaGreat.Pl
namespace Go.Proofs.YtjllpipmaejeoaaGreat.Pl
open Go.Proofs.YtjllpipmaejeoaaGreat.R Go.Proofs.YtjllpipmaejeoaaGreat.XV
theorem Ye {T A S R : Type} {step : (T → Option R) → T → Option R} (mk : Int → S → T) (k : S → Option R) (da : A) (g : S → A → S) (l : List A) (hl : l.length ≤ 1099511627776) (I : Nat → S → Prop)
  (h : ∀ again i s, 0 ≤ i → i < (l.length : Int) → I i.toNat s → step again (mk i s) = again (mk (i + 1) (g s (l.getD i.toNat da))) ∧ I (i.toNat + 1) (g s (l.getD i.toNat da)))
  (hd : ∀ again i s, ¬ i < (l.length : Int) → step again (mk i s) = k s) (s : S) (hs : I 0 s) : zS step Y4 (mk 0 s) = k (l.foldl g s) := by
 have key : ∀ (n : Nat) (i : Int) (s : S), 0 ≤ i → i ≤ l.length → I i.toNat s → l.length - i.toNat < n → zS step n (mk i s) = k ((l.drop i.toNat).foldl g s) := by
  intro n
  induction n with
  | zero => intro i s _ _ _ hn; omega
  | succ n ih =>
   intro i s h0 h1 hI hn
   rw [zS]
   by_cases hi : i < (l.length : Int)
   ·obtain ⟨e, hI'⟩ := h (zS step n) i s h0 hi hI
    have e1 : (i + 1).toNat = i.toNat + 1 := by omega
    rw [e, ih (i + 1) _ (by omega) (by omega) (by rw [e1]; exact hI') (by omega), JO da l i h0 hi]
    rfl
   ·rw [hd _ i s hi, List.drop_of_length_le (by omega)]
    rfl
 have := key Y4 0 s (by omega) (by omega) hs (by rw [y1C]; simp; omega)
 simpa using this
def W7 (c k : y7) : Bool := if c.1 < k.1 then true else if c.1 = k.1 then decide (c.2.1 < k.2.1) else false
def Y3 (c k : y7) : Bool := decide (c.1 = k.1) && decide (c.2.1 = k.2.1)
theorem y0k (a1 a2 a3 a4 a5 b1 b2 b3 b4 b5 : Int) : jZ (a1, a2, a3, a4, a5, b1, b2, b3, b4, b5) = some (W7 (a1, a2, a3, a4, a5) (b1, b2, b3, b4, b5)) := by
 unfold jZ W7
 by_cases h : a1 = b1
 ·subst h
  simp
 ·have hb : (a1 == b1) = false := by simpa using h
  have hb' : (a1 != b1) = true := by simpa using h
  by_cases h2 : a1 < b1 <;> simp [h, h2, hb, hb']
theorem y0l (a1 a2 a3 a4 a5 b1 b2 b3 b4 b5 : Int) : J2 (a1, a2, a3, a4, a5, b1, b2, b3, b4, b5) = some (W7 (a1, a2, a3, a4, a5) (b1, b2, b3, b4, b5)) := by
 unfold J2 W7
 by_cases h : a1 = b1
 ·subst h
  simp
 ·have hb : (a1 == b1) = false := by simpa using h
  have hb' : (a1 != b1) = true := by simpa using h
  by_cases h2 : a1 < b1 <;> simp [h, h2, hb, hb']
theorem y3Q (a1 a2 a3 a4 a5 b1 b2 b3 b4 b5 : Int) : ZN (a1, a2, a3, a4, a5, b1, b2, b3, b4, b5) = some (Y3 (a1, a2, a3, a4, a5) (b1, b2, b3, b4, b5)) := by
 unfold ZN Y3
 have e1 : (a1 == b1) = decide (a1 = b1) := rfl
 have e2 : (a2 == b2) = decide (a2 = b2) := rfl
 simp only [e1, e2]
 cases decide (a1 = b1) <;> cases decide (a2 = b2) <;> rfl
theorem y3R (a1 a2 a3 a4 a5 b1 b2 b3 b4 b5 : Int) : j7 (a1, a2, a3, a4, a5, b1, b2, b3, b4, b5) = some (Y3 (a1, a2, a3, a4, a5) (b1, b2, b3, b4, b5)) := by
 unfold j7 Y3
 have e1 : (a1 == b1) = decide (a1 = b1) := rfl
 have e2 : (a2 == b2) = decide (a2 = b2) := rfl
 simp only [e1, e2]
 cases decide (a1 = b1) <;> cases decide (a2 = b2) <;> rfl
theorem yuC {n k : Nat} (h : n ≤ 1073741825) (hk : (1073741825 + k) * 40 < 140737488355328) : (n + k) * 40 < 140737488355328 := by omega
def J5 (k : y7) (s : Bool × List y7) (c : y7) : Bool × List y7 :=
 if s.1 = false ∧ W7 c k = false then (true, if Y3 c k then s.2 ++ [k] else s.2 ++ [k] ++ [c]) else (s.1, if Y3 c k then s.2 else s.2 ++ [c])
def Y1 (l : List y7) (k : y7) : List y7 :=
 let r := l.foldl (J5 k) (false, [])
 if r.1 then r.2 else r.2 ++ [k]
def pN (p : Bool) : Nat := if p then 1 else 0
theorem y52 (k : y7) (s : Bool × List y7) (c : y7) : (J5 k s c).2.length + pN s.1 ≤ s.2.length + 1 + pN (J5 k s c).1 ∧ pN (J5 k s c).1 ≤ 1 := by
 unfold J5 pN
 obtain ⟨p, o⟩ := s
 cases p <;> cases W7 c k <;> cases Y3 c k <;> simp
theorem y0U (k : y7) : ∀ (l : List y7) (s : Bool × List y7), (l.foldl (J5 k) s).2.length + pN s.1 ≤ s.2.length + l.length + pN (l.foldl (J5 k) s).1
 | [], s => by simp
 | c :: l, s => by
  have h1 := (y52 k s c).1
  have h2 := y0U k l (J5 k s c)
  simp only [List.foldl_cons, List.length_cons] at h2 ⊢
  omega
theorem Wm (l : List y7) (k : y7) : (Y1 l k).length ≤ l.length + 1 := by
 have h := y0U k l (false, [])
 unfold Y1
 simp only [pN, List.length_nil, Bool.false_eq_true, if_false] at h ⊢
 cases hr : (l.foldl (J5 k) (false, [])).1 with
 | true =>
  rw [hr] at h
  simp at h ⊢
  omega
 | false =>
  rw [hr] at h
  simp at h ⊢
  omega
theorem y3S {R : Type} (k0 : Bool × Int × Int × Int × Int × Int × List y7 → Option R) (again : WB → Option R) (l : List y7) (i : Int) (p : Bool) (a b c d e : Int) (o : List y7) (hl : l.length ≤ 1073741824) (h0 : 0 ≤ i) (h1 : i < (l.length : Int)) (ho : o.length ≤ 1073741825) :
  YW k0 again (l, p, i, a, b, c, d, e, o) = again (l, (J5 (a, b, c, d, e) (p, o) (l.getD i.toNat yH)).1, i + 1, a, b, c, d, e, (J5 (a, b, c, d, e) (p, o) (l.getD i.toNat yH)).2) := by
 have hw : Go.IntKind.wrap .i64 (i + 1) = i + 1 := w64 (by omega) (by omega)
 have c1 : (o.length + (0 + 1)) * 40 < 140737488355328 := yuC ho (by decide)
 have c2 : (o.length + (0 + 1) + (0 + 1)) * 40 < 140737488355328 := by rw [Nat.add_assoc]; exact yuC ho (by decide)
 obtain ⟨⟨x1, x2, x3, x4, x5⟩, hx⟩ : ∃ x, y6 l i = x := ⟨_, rfl⟩
 have hx' : l.getD i.toNat yH = (x1, x2, x3, x4, x5) := hx
 rw [hx']
 unfold YW
 simp only [Bool.cond_eq_ite, decide_eq_true_eq, h0, h1, if_true, hw, hx, y0k, y3Q, Option.bind_some, List.length_append, List.length_cons, List.length_nil]
 unfold J5
 generalize W7 (x1, x2, x3, x4, x5) (a, b, c, d, e) = q1
 generalize Y3 (x1, x2, x3, x4, x5) (a, b, c, d, e) = q2
 simp only [c1, c2, if_true]
 cases p <;> cases q1 <;> cases q2 <;> rfl
theorem y3T {R : Type} (k0 : Bool × Int × Int × Int × Int × Int × List y7 → Option R) (l : List y7) (a b c d e : Int) (hl : l.length ≤ 1073741824) :
  vH k0 (l, false, 0, a, b, c, d, e, []) = k0 ((l.foldl (J5 (a, b, c, d, e)) (false, [])).1, a, b, c, d, e, (l.foldl (J5 (a, b, c, d, e)) (false, [])).2) := by
 unfold vH
 refine Ye (step := YW k0) (fun (i : Int) (s : Bool × List y7) => (l, s.1, i, a, b, c, d, e, s.2)) (fun s => k0 (s.1, a, b, c, d, e, s.2)) yH (J5 (a, b, c, d, e)) l (by omega) (fun i s => s.2.length ≤ i + pN s.1) ?_ ?_ (false, []) (by simp)
 ·rintro again i ⟨p, o⟩ h0 h1 hI
  have hp : pN p ≤ 1 := by cases p <;> decide
  have hI' : o.length ≤ i.toNat + pN p := hI
  clear hI
  refine ⟨y3S k0 again l i p a b c d e o hl h0 h1 (by omega), ?_⟩
  have ho := (y52 (a, b, c, d, e) (p, o) (l.getD i.toNat yH)).1
  show (J5 (a, b, c, d, e) (p, o) (l.getD i.toNat yH)).2.length ≤ i.toNat + 1 + pN (J5 (a, b, c, d, e) (p, o) (l.getD i.toNat yH)).1
  generalize (J5 (a, b, c, d, e) (p, o) (l.getD i.toNat yH)) = r at ho ⊢
  simp only at ho
  omega
 ·rintro again i ⟨p, o⟩ hi
  show YW k0 again (l, p, i, a, b, c, d, e, o) = _
  unfold YW
  simp only [Bool.cond_eq_ite, decide_eq_true_eq, if_neg hi]
theorem Kv (l : List y7) (a b c d e : Int) (hl : l.length ≤ 1073741824) : zI (l, a, b, c, d, e) = some (Y1 l (a, b, c, d, e)) := by
 have hlen := y0U (a, b, c, d, e) l (false, [])
 unfold zI Y1
 rw [y3T _ l a b c d e hl]
 generalize l.foldl (J5 (a, b, c, d, e)) (false, []) = r at hlen ⊢
 obtain ⟨q, o⟩ := r
 cases q with
 | true => rfl
 | false =>
  simp only [pN, List.length_nil, Bool.false_eq_true, if_false] at hlen
  simp only [Bool.not_false, cond_true, List.length_cons, List.length_nil, Bool.false_eq_true, if_false]
  rw [if_pos (by omega)]
theorem y3U {R : Type} (k0 : Bool × Int × Int × Int × Int × Int × List y7 → Option R) (again : WZ → Option R) (l : List y7) (i : Int) (p : Bool) (a b c d e : Int) (o : List y7) (hl : l.length ≤ 1073741824) (h0 : 0 ≤ i) (h1 : i < (l.length : Int)) (ho : o.length ≤ 1073741825) :
  Z0 k0 again (p, l, (l.length : Int), i, a, b, c, d, e, o) = again ((J5 (a, b, c, d, e) (p, o) (l.getD i.toNat yH)).1, l, (l.length : Int), i + 1, a, b, c, d, e, (J5 (a, b, c, d, e) (p, o) (l.getD i.toNat yH)).2) := by
 have hw : Go.IntKind.wrap .i64 (i + 1) = i + 1 := w64 (by omega) (by omega)
 have c1 : (o.length + (0 + 1)) * 40 < 140737488355328 := yuC ho (by decide)
 have c2 : (o.length + (0 + 1) + (0 + 1)) * 40 < 140737488355328 := by rw [Nat.add_assoc]; exact yuC ho (by decide)
 obtain ⟨⟨x1, x2, x3, x4, x5⟩, hx⟩ : ∃ x, y6 l i = x := ⟨_, rfl⟩
 have hx' : l.getD i.toNat yH = (x1, x2, x3, x4, x5) := hx
 rw [hx']
 unfold Z0
 simp only [Bool.cond_eq_ite, decide_eq_true_eq, h0, h1, if_true, hw, hx, y0l, y3R, Option.bind_some, List.length_append, List.length_cons, List.length_nil]
 unfold J5
 generalize W7 (x1, x2, x3, x4, x5) (a, b, c, d, e) = q1
 generalize Y3 (x1, x2, x3, x4, x5) (a, b, c, d, e) = q2
 simp only [c1, c2, if_true]
 cases p <;> cases q1 <;> cases q2 <;> rfl
theorem y3V {R : Type} (k0 : Bool × Int × Int × Int × Int × Int × List y7 → Option R) (l : List y7) (a b c d e : Int) (hl : l.length ≤ 1073741824) :
  V3 k0 (false, l, (l.length : Int), 0, a, b, c, d, e, []) = k0 ((l.foldl (J5 (a, b, c, d, e)) (false, [])).1, a, b, c, d, e, (l.foldl (J5 (a, b, c, d, e)) (false, [])).2) := by
 unfold V3
 refine Ye (step := Z0 k0) (fun (i : Int) (s : Bool × List y7) => (s.1, l, (l.length : Int), i, a, b, c, d, e, s.2)) (fun s => k0 (s.1, a, b, c, d, e, s.2)) yH (J5 (a, b, c, d, e)) l (by omega) (fun i s => s.2.length ≤ i + pN s.1) ?_ ?_ (false, []) (by simp)
 ·rintro again i ⟨p, o⟩ h0 h1 hI
  have hp : pN p ≤ 1 := by cases p <;> decide
  have hI' : o.length ≤ i.toNat + pN p := hI
  clear hI
  refine ⟨y3U k0 again l i p a b c d e o hl h0 h1 (by omega), ?_⟩
  have ho := (y52 (a, b, c, d, e) (p, o) (l.getD i.toNat yH)).1
  show (J5 (a, b, c, d, e) (p, o) (l.getD i.toNat yH)).2.length ≤ i.toNat + 1 + pN (J5 (a, b, c, d, e) (p, o) (l.getD i.toNat yH)).1
  generalize (J5 (a, b, c, d, e) (p, o) (l.getD i.toNat yH)) = r at ho ⊢
  simp only at ho
  omega
 ·rintro again i ⟨p, o⟩ hi
  show Z0 k0 again (p, l, (l.length : Int), i, a, b, c, d, e, o) = _
  unfold Z0
  simp only [Bool.cond_eq_ite, decide_eq_true_eq, if_neg hi]
theorem VV (l : List y7) (a b c d e : Int) (hl : l.length ≤ 1073741824) : jw (l, a, b, c, d, e) = some (Y1 l (a, b, c, d, e)) := by
 have hlen := y0U (a, b, c, d, e) l (false, [])
 unfold jw Y1
 rw [y3V _ l a b c d e hl]
 generalize l.foldl (J5 (a, b, c, d, e)) (false, []) = r at hlen ⊢
 obtain ⟨q, o⟩ := r
 cases q with
 | true => rfl
 | false =>
  simp only [pN, List.length_nil, Bool.false_eq_true, if_false] at hlen
  simp only [Bool.not_false, cond_true, List.length_cons, List.length_nil, Bool.false_eq_true, if_false]
  rw [if_pos (by omega)]
end Go.Proofs.YtjllpipmaejeoaaGreat.Pl
namespace Go.Proofs.YtjllpipmaejeoaaGreat.Pl
open Go.Proofs.YtjllpipmaejeoaaGreat.R Go.Proofs.YtjllpipmaejeoaaGreat.XV
def Qz (l : List ya) : Int := (List.length l : Int) + kt (fun a : ya => (List.length a : Int)) l
theorem KJ (l : List ya) : 0 ≤ Qz l := by
 have := W6 (w := fun a : ya => (List.length a : Int)) (fun a => Int.natCast_nonneg _) l
 unfold Qz
 omega
end Go.Proofs.YtjllpipmaejeoaaGreat.Pl
namespace Go.Proofs.YtjllpipmaejeoaaGreat.Pl
open Go.Proofs.YtjllpipmaejeoaaGreat.R Go.Proofs.YtjllpipmaejeoaaGreat.XV
def Z4 (a b : List y7) : List y7 := b.foldl Y1 a
theorem y0V : ∀ (b a : List y7), (Z4 a b).length ≤ a.length + b.length
 | [], a => by simp [Z4]
 | c :: b, a => by
  have h := y0V b (Y1 a c)
  have h2 := Wm a c
  unfold Z4 at h ⊢
  simp only [List.foldl_cons, List.length_cons] at h ⊢
  omega
def Vj (s : List y7) (c : y7) : List y7 := if c.2.2.1 = 0 then s else s ++ [c]
def W8 (l : List y7) : List y7 := l.foldl Vj []
theorem y1H (s : List y7) (c : y7) : (Vj s c).length ≤ s.length + 1 := by
 unfold Vj
 split <;> simp
theorem y53 : ∀ (l s : List y7), (l.foldl Vj s).length ≤ s.length + l.length
 | [], s => by simp
 | c :: l, s => by
  have h := y53 l (Vj s c)
  have h2 := y1H s c
  simp only [List.foldl_cons, List.length_cons]
  omega
def qg (a : ya) : Int := (List.length a : Int)
theorem Ke (a : ya) : 0 ≤ qg a := Int.natCast_nonneg _
def yz (n : List ya) : List y7 := W8 (n.foldl Z4 [])
theorem y2i : ∀ (n : List ya) (s : List y7), ((n.foldl Z4 s).length : Int) ≤ s.length + kt qg n
 | [], s => by simp [kt]
 | c :: n, s => by
  have h := y2i n (Z4 s c)
  have h2 := y0V c s
  simp only [List.foldl_cons, Yj, qg]
  omega
theorem KK (n : List ya) : ((yz n).length : Int) ≤ kt qg n := by
 have h := y53 (n.foldl Z4 []) []
 have h2 := y2i n []
 unfold yz W8
 simp only [List.length_nil] at h h2
 omega
theorem y2j (n : List ya) : kt qg n ≤ Qz n := by
 show kt (fun a : ya => (List.length a : Int)) n ≤ (List.length n : Int) + kt (fun a : ya => (List.length a : Int)) n
 omega
def ku (s : List y7) (n : y0) : List y7 := s ++ yz n
def yc (t : List y0) : List y7 := t.foldl ku []
theorem y2W (a b : List y7) (h : a.length + b.length ≤ 1073741824) : Z6 (a, b) = some (Z4 a b) := by
 unfold Z6 VA
 simp only [List.length_nil, Nat.zero_add, List.nil_append]
 rw [if_pos (by omega)]
 refine Ye (step := Zc _) (fun (i : Int) (s : List y7) => (b, i, s)) (fun s => some s) yH Y1 b (by omega) (fun i s => s.length ≤ a.length + i) ?_ ?_ a (by simp)
 ·intro again i s h0 h1 hI
  have hw : Go.IntKind.wrap .i64 (i + 1) = i + 1 := w64 (by omega) (by omega)
  have hs := Wm s (b.getD i.toNat yH)
  have e := Kv s (y6 b i).1 (y6 b i).2.1 (y6 b i).2.2.1 (y6 b i).2.2.2.1 (y6 b i).2.2.2.2 (by omega)
  refine ⟨?_, by omega⟩
  unfold Zc
  simp only [Bool.cond_eq_ite, decide_eq_true_eq, h0, h1, if_true, hw, e, Option.bind_some]
  rfl
 ·intro again i s hi
  unfold Zc
  simp only [Bool.cond_eq_ite, decide_eq_true_eq, if_neg hi]
theorem y0m (l : List y7) (h : l.length ≤ 1073741824) : Y7 l = some (W8 l) := by
 unfold Y7 y2c
 refine Ye (step := WA _) (fun (i : Int) (s : List y7) => (l, i, s)) (fun s => some s) yH Vj l (by omega) (fun i s => s.length ≤ i) ?_ ?_ [] (by simp)
 ·intro again i s h0 h1 hI
  have hw : Go.IntKind.wrap .i64 (i + 1) = i + 1 := w64 (by omega) (by omega)
  have hs := y1H s (l.getD i.toNat yH)
  refine ⟨?_, by omega⟩
  have c1 : (s.length + 1) * 40 < 140737488355328 := by omega
  clear hs
  unfold WA Vj
  obtain ⟨⟨x1, x2, x3, x4, x5⟩, hx⟩ : ∃ x, y6 l i = x := ⟨_, rfl⟩
  have hx' : l.getD i.toNat yH = (x1, x2, x3, x4, x5) := hx
  rw [hx']
  simp only [Bool.cond_eq_ite, decide_eq_true_eq, h0, h1, if_true, hw, hx, List.length_cons, List.length_nil, Nat.zero_add, c1]
  by_cases h3 : x3 = 0
  ·rw [if_neg (by simpa using h3), if_pos h3]
  ·rw [if_pos (by simpa using h3), if_neg h3]
 ·intro again i s hi
  unfold WA
  simp only [Bool.cond_eq_ite, decide_eq_true_eq, if_neg hi]
theorem Za (n : List ya) (hn : n.length ≤ 1073741824) (h : kt qg n ≤ 1048576) : yC n = some (yz n) := by
 have hlen := y2i n []
 simp only [List.length_nil] at hlen
 have hD := y0m (n.foldl Z4 []) (by omega)
 unfold yC qq
 refine (Ye (step := ZO _) (fun (i : Int) (s : List y7) => (i, n, s)) (fun s => Option.bind (Y7 s) fun r3 => some r3) yY Z4 n (by omega) (fun i s => (s.length : Int) + kt qg (n.drop i) ≤ kt qg n) ?_ ?_ [] (by simp)).trans ?_
 ·intro again i s h0 h1 hI
  have hw : Go.IntKind.wrap .i64 (i + 1) = i + 1 := w64 (by omega) (by omega)
  rw [JO yY n i h0 h1, Yj, show (i + 1).toNat = i.toNat + 1 by omega] at hI
  have hnn := W6 Ke (n.drop (i.toNat + 1))
  have hm := y0V (n.getD i.toNat yY) s
  have hk : qg (n.getD i.toNat yY) = (List.length (n.getD i.toNat yY) : Int) := rfl
  have e : Z6 (s, yn n i) = some (Z4 s (yn n i)) := y2W s _ (by show s.length + List.length (n.getD i.toNat yY) ≤ _; omega)
  refine ⟨?_, by omega⟩
  unfold ZO
  simp only [Bool.cond_eq_ite, decide_eq_true_eq, h0, h1, if_true, hw, e, Option.bind_some]
  rfl
 ·intro again i s hi
  unfold ZO
  simp only [Bool.cond_eq_ite, decide_eq_true_eq, if_neg hi]
 ·rw [hD]
  rfl
theorem YG (q : List Int) (t : List y0) (ht : t.length ≤ 1073741824) (hm : ∀ n ∈ t, List.length n ≤ 1073741824) (h : kt Qz t ≤ 1048576) : yP (q, t) = some (yc t) := by
 unfold yP qr
 refine Ye (step := ZP _) (fun (i : Int) (s : List y7) => (i, q, t, s)) (fun s => some s) yf ku t (by omega) (fun i s => (s.length : Int) + kt Qz (t.drop i) ≤ kt Qz t) ?_ ?_ [] (by simp)
 ·intro again i s h0 h1 hI
  have hw : Go.IntKind.wrap .i64 (i + 1) = i + 1 := w64 (by omega) (by omega)
  rw [JO yf t i h0 h1, Yj, show (i + 1).toNat = i.toNat + 1 by omega] at hI
  have hnn := W6 KJ (t.drop (i.toNat + 1))
  have hge := y2j (t.getD i.toNat yf)
  have hk := KK (t.getD i.toNat yf)
  have e : yC (ye t i) = some (yz (ye t i)) := Za _ (hm _ (yW yf t i h0 h1)) (by show kt qg (t.getD i.toNat yf) ≤ _; omega)
  have hT : (ku s (t.getD i.toNat yf)).length = s.length + (yz (t.getD i.toNat yf)).length := List.length_append
  have c1 : (s.length + (yz (ye t i)).length) * 40 < 140737488355328 := by
   show (s.length + (yz (t.getD i.toNat yf)).length) * 40 < 140737488355328
   generalize (yz (t.getD i.toNat yf)).length = m at hk ⊢
   clear hT e
   have : s.length + m ≤ 1048576 := by omega
   omega
  refine ⟨?_, by rw [hT]; omega⟩
  unfold ZP
  simp only [Bool.cond_eq_ite, decide_eq_true_eq, h0, h1, if_true, hw, e, Option.bind_some, c1]
  rfl
 ·intro again i s hi
  unfold ZP
  simp only [Bool.cond_eq_ite, decide_eq_true_eq, if_neg hi]
theorem y2X (a b : List y7) (h : a.length + b.length ≤ 1073741824) : Z9 (a, b) = some (Z4 a b) := by
 unfold Z9 Ya VG
 simp only [List.length_nil, Nat.zero_add, List.nil_append]
 rw [if_pos (by omega), Option.bind_some]
 refine Ye (step := Zl _) (fun (i : Int) (s : List y7) => (b, (b.length : Int), i, s)) (fun s => some s) yH Y1 b (by omega) (fun i s => s.length ≤ a.length + i) ?_ ?_ a (by simp)
 ·intro again i s h0 h1 hI
  have hw : Go.IntKind.wrap .i64 (i + 1) = i + 1 := w64 (by omega) (by omega)
  have hs := Wm s (b.getD i.toNat yH)
  have e := VV s (y6 b i).1 (y6 b i).2.1 (y6 b i).2.2.1 (y6 b i).2.2.2.1 (y6 b i).2.2.2.2 (by omega)
  refine ⟨?_, by omega⟩
  unfold Zl
  simp only [Bool.cond_eq_ite, decide_eq_true_eq, h0, h1, if_true, hw, e, Option.bind_some]
  rfl
 ·intro again i s hi
  unfold Zl
  simp only [Bool.cond_eq_ite, decide_eq_true_eq, if_neg hi]
theorem y3w (l : List y7) (h : l.length ≤ 1073741824) : JC l = some (W8 l) := by
 unfold JC y2h
 refine Ye (step := k7 _) (fun (i : Int) (s : List y7) => (l, (l.length : Int), i, s)) (fun s => some s) yH Vj l (by omega) (fun i s => s.length ≤ i) ?_ ?_ [] (by simp)
 ·intro again i s h0 h1 hI
  have hw : Go.IntKind.wrap .i64 (i + 1) = i + 1 := w64 (by omega) (by omega)
  have hs := y1H s (l.getD i.toNat yH)
  refine ⟨?_, by omega⟩
  have c1 : (s.length + 1) * 40 < 140737488355328 := by omega
  clear hs
  unfold k7 Vj
  obtain ⟨⟨x1, x2, x3, x4, x5⟩, hx⟩ : ∃ x, y6 l i = x := ⟨_, rfl⟩
  have hx' : l.getD i.toNat yH = (x1, x2, x3, x4, x5) := hx
  rw [hx']
  simp only [Bool.cond_eq_ite, decide_eq_true_eq, h0, h1, if_true, hw, hx, List.length_cons, List.length_nil, Nat.zero_add, c1]
  by_cases h3 : x3 = 0
  ·rw [if_neg (by simpa using h3), if_pos h3]
  ·rw [if_pos (by simpa using h3), if_neg h3]
 ·intro again i s hi
  unfold k7
  simp only [Bool.cond_eq_ite, decide_eq_true_eq, if_neg hi]
theorem jT (n : List ya) (hn : n.length ≤ 1073741824) (h : kt qg n ≤ 1048576) : yR n = some (yz n) := by
 have hlen := y2i n []
 simp only [List.length_nil] at hlen
 have hD := y3w (n.foldl Z4 []) (by omega)
 unfold yR qz
 refine (Ye (step := j8 _) (fun (i : Int) (s : List y7) => (n, (n.length : Int), i, s)) (fun s => Option.bind (JC s) fun r3 => some r3) yY Z4 n (by omega) (fun i s => (s.length : Int) + kt qg (n.drop i) ≤ kt qg n) ?_ ?_ [] (by simp)).trans ?_
 ·intro again i s h0 h1 hI
  have hw : Go.IntKind.wrap .i64 (i + 1) = i + 1 := w64 (by omega) (by omega)
  rw [JO yY n i h0 h1, Yj, show (i + 1).toNat = i.toNat + 1 by omega] at hI
  have hnn := W6 Ke (n.drop (i.toNat + 1))
  have hm := y0V (n.getD i.toNat yY) s
  have hk : qg (n.getD i.toNat yY) = (List.length (n.getD i.toNat yY) : Int) := rfl
  have e : Z9 (s, yn n i) = some (Z4 s (yn n i)) := y2X s _ (by show s.length + List.length (n.getD i.toNat yY) ≤ _; omega)
  refine ⟨?_, by omega⟩
  unfold j8
  simp only [Bool.cond_eq_ite, decide_eq_true_eq, h0, h1, if_true, hw, e, Option.bind_some]
  rfl
 ·intro again i s hi
  unfold j8
  simp only [Bool.cond_eq_ite, decide_eq_true_eq, if_neg hi]
 ·rw [hD]
  rfl
theorem jU (q : List Int) (t : List y0) (ht : t.length ≤ 1073741824) (hm : ∀ n ∈ t, List.length n ≤ 1073741824) (h : kt Qz t ≤ 1048576) : za (q, t) = some (yc t) := by
 unfold za qA
 refine Ye (step := j9 _) (fun (i : Int) (s : List y7) => (t, (t.length : Int), i, s)) (fun s => some s) yf ku t (by omega) (fun i s => (s.length : Int) + kt Qz (t.drop i) ≤ kt Qz t) ?_ ?_ [] (by simp)
 ·intro again i s h0 h1 hI
  have hw : Go.IntKind.wrap .i64 (i + 1) = i + 1 := w64 (by omega) (by omega)
  rw [JO yf t i h0 h1, Yj, show (i + 1).toNat = i.toNat + 1 by omega] at hI
  have hnn := W6 KJ (t.drop (i.toNat + 1))
  have hge := y2j (t.getD i.toNat yf)
  have hk := KK (t.getD i.toNat yf)
  have e : yR (ye t i) = some (yz (ye t i)) := jT _ (hm _ (yW yf t i h0 h1)) (by show kt qg (t.getD i.toNat yf) ≤ _; omega)
  have hT : (ku s (t.getD i.toNat yf)).length = s.length + (yz (t.getD i.toNat yf)).length := List.length_append
  have c1 : (s.length + (yz (ye t i)).length) * 40 < 140737488355328 := by
   show (s.length + (yz (t.getD i.toNat yf)).length) * 40 < 140737488355328
   generalize (yz (t.getD i.toNat yf)).length = m at hk ⊢
   clear hT e
   have : s.length + m ≤ 1048576 := by omega
   omega
  refine ⟨?_, by rw [hT]; omega⟩
  unfold j9
  simp only [Bool.cond_eq_ite, decide_eq_true_eq, h0, h1, if_true, hw, e, Option.bind_some, c1]
  rfl
 ·intro again i s hi
  unfold j9
  simp only [Bool.cond_eq_ite, decide_eq_true_eq, if_neg hi]
end Go.Proofs.YtjllpipmaejeoaaGreat.Pl
namespace Go.Proofs.YtjllpipmaejeoaaGreat.Pl
open Go.Proofs.YtjllpipmaejeoaaGreat.R Go.Proofs.YtjllpipmaejeoaaGreat.XV
def y9f {S A R : Type} (g : Int → S → A → Except (Option R) S) (k : S → Option R) : List A → Int → S → Option R
 | [], _, s => k s
 | a :: l, i, s => match g i s a with
  | .error r => r
  | .ok s' => y9f g k l (i + 1) s'
theorem y54 {T A S R : Type} {step : (T → Option R) → T → Option R} (mk : Int → S → T) (g : Int → S → A → Except (Option R) S) (k : S → Option R) (da : A) (l : List A) (hl : l.length ≤ 1099511627776) (I : Nat → S → Prop)
  (h : ∀ again i s, 0 ≤ i → i < (l.length : Int) → I i.toNat s → (step again (mk i s) = match g i s (l.getD i.toNat da) with
   | .error r => r
   | .ok s' => again (mk (i + 1) s')) ∧ ∀ s', g i s (l.getD i.toNat da) = .ok s' → I (i.toNat + 1) s')
  (hd : ∀ again i s, ¬ i < (l.length : Int) → step again (mk i s) = k s) (s : S) (hs : I 0 s) : zS step Y4 (mk 0 s) = y9f g k l 0 s := by
 have key : ∀ (n : Nat) (i : Int) (s : S), 0 ≤ i → i ≤ l.length → I i.toNat s → l.length - i.toNat < n → zS step n (mk i s) = y9f g k (l.drop i.toNat) i s := by
  intro n
  induction n with
  | zero => intro i s _ _ _ hn; omega
  | succ n ih =>
   intro i s h0 h1 hI hn
   rw [zS]
   by_cases hi : i < (l.length : Int)
   ·obtain ⟨e, hI'⟩ := h (zS step n) i s h0 hi hI
    have e1 : (i + 1).toNat = i.toNat + 1 := by omega
    rw [e, JO da l i h0 hi, y9f]
    cases hg : g i s (l.getD i.toNat da) with
    | error r => rfl
    | ok s' => exact ih (i + 1) s' (by omega) (by omega) (by rw [e1]; exact hI' s' hg) (by omega)
   ·rw [hd _ i s hi, List.drop_of_length_le (by omega)]
    rfl
 have := key Y4 0 s (by omega) (by omega) hs (by rw [y1C]; simp; omega)
 simpa using this
def zE {A : Type} (p : A → Bool) : List A → Int → Int
 | [], _ => -1
 | a :: l, i => if p a then i else zE p l (i + 1)
theorem ya4 {A R : Type} (p : A → Bool) (hit : Int → Option R) (miss : Option R) : ∀ (l : List A) (i : Int), 0 ≤ i → y9f (fun i (_ : Unit) a => if p a then .error (hit i) else .ok ()) (fun _ => miss) l i () = if zE p l i < 0 then miss else hit (zE p l i)
 | [], i, _ => by simp [y9f, zE]
 | a :: l, i, h => by
  rw [y9f, zE]
  by_cases hp : p a = true
  ·rw [if_pos hp, if_pos hp, if_neg (by omega)]
  ·rw [if_neg hp, if_neg hp]
   exact ya4 p hit miss l (i + 1) (by omega)
theorem Yz {T A R : Type} {step : (T → Option R) → T → Option R} (mk : Int → T) (p : A → Bool) (hit : Int → Option R) (miss : Option R) (da : A) (l : List A) (hl : l.length ≤ 1099511627776)
  (h : ∀ again i, 0 ≤ i → i < (l.length : Int) → step again (mk i) = if p (l.getD i.toNat da) then hit i else again (mk (i + 1)))
  (hd : ∀ again i, ¬ i < (l.length : Int) → step again (mk i) = miss) : zS step Y4 (mk 0) = if zE p l 0 < 0 then miss else hit (zE p l 0) := by
 rw [← ya4 p hit miss l 0 (Int.le_refl _)]
 refine y54 (fun i (_ : Unit) => mk i) _ _ da l hl (fun _ _ => True) (fun again i s h0 h1 _ => ⟨?_, fun _ _ => trivial⟩) (fun again i s hi => hd again i hi) () trivial
 rw [h again i h0 h1]
 cases p (l.getD i.toNat da) <;> rfl
theorem Yh {A : Type} (p : A → Bool) (da : A) : ∀ (l : List A) (i : Int), 0 ≤ i → zE p l i = -1 ∨ (i ≤ zE p l i ∧ zE p l i < i + l.length ∧ p (l.getD (zE p l i - i).toNat da) = true)
 | [], i, _ => .inl rfl
 | a :: l, i, h => by
  rw [zE]
  by_cases hp : p a = true
  ·rw [if_pos hp]
   refine .inr ⟨Int.le_refl _, by simp only [List.length_cons]; omega, ?_⟩
   simpa using hp
  ·rw [if_neg hp]
   rcases Yh p da l (i + 1) (by omega) with e | ⟨e1, e2, e3⟩
   ·exact .inl e
   ·refine .inr ⟨by omega, by simp only [List.length_cons]; omega, ?_⟩
    rw [show (zE p l (i + 1) - i).toNat = (zE p l (i + 1) - (i + 1)).toNat + 1 by omega, List.getD_cons_succ]
    exact e3
def yS (l : List y9) (id : Int) : Int := zE (fun a : y9 => a.1 == id) l 0
theorem y0W (l : List y9) (id : Int) : yS l id = -1 ∨ (0 ≤ yS l id ∧ yS l id < l.length ∧ (l.getD (yS l id).toNat yx).1 = id) := by
 rcases Yh (fun a : y9 => a.1 == id) yx l 0 (Int.le_refl _) with h | ⟨h1, h2, h3⟩
 ·exact .inl h
 ·refine .inr ⟨h1, by simpa [yS] using h2, ?_⟩
  have := eq_of_beq h3
  simpa [yS] using this
theorem Zw (l : List y9) (id : Int) (hl : l.length ≤ 1073741824) : zU (l, id) = some (yS l id) := by
 unfold zU y1g
 refine (Yz (step := wA _ _) (fun i => (l, id, i)) (fun a : y9 => a.1 == id) (fun x => some x) (some (-1)) yx l (by omega) ?_ ?_).trans ?_
 ·intro again i h0 h1
  have hw : Go.IntKind.wrap .i64 (i + 1) = i + 1 := w64 (by omega) (by omega)
  unfold wA
  simp only [Bool.cond_eq_ite, decide_eq_true_eq, h0, h1, if_true, hw]
  rfl
 ·intro again i hi
  unfold wA
  simp only [Bool.cond_eq_ite, decide_eq_true_eq, if_neg hi]
 ·rcases y0W l id with h | ⟨h1, h2, h3⟩ <;> unfold yS at *
  ·rw [h]
   rfl
  ·rw [if_neg (by omega)]
theorem kv (l : List y9) (id : Int) (hl : l.length ≤ 1073741824) : YU (l, id) = some (yS l id) := by
 have key : zb (l, id) = some (yS l id, id) := by
  unfold zb YJ
  refine (Yz (step := z3 _ _) (fun i => (l, (l.length : Int), i, id)) (fun a : y9 => a.1 == id) (fun x => some (x, id)) (some (-1, id)) yx l (by omega) ?_ ?_).trans ?_
  ·intro again i h0 h1
   have hw : Go.IntKind.wrap .i64 (i + 1) = i + 1 := w64 (by omega) (by omega)
   unfold z3 Ku
   simp only [Bool.cond_eq_ite, decide_eq_true_eq, h0, h1, if_true, hw, Option.bind_some]
   rfl
  ·intro again i hi
   unfold z3
   simp only [Bool.cond_eq_ite, decide_eq_true_eq, if_neg hi]
  ·rcases y0W l id with h | ⟨h1, h2, h3⟩ <;> unfold yS at *
   ·rw [h]
    rfl
   ·rw [if_neg (by omega)]
 unfold YU
 rw [key]
 rfl
def yhd (l : List Int) (v : Int) : Bool := decide (0 ≤ zE (fun a : Int => a == v) l 0)
theorem yc9 (l : List Int) (v : Int) (hl : l.length ≤ 1073741824) : KH (l, v) = some (yhd l v) := by
 unfold KH y1j
 refine (Yz (step := wH _ _) (fun i => (l, v, i)) (fun a : Int => a == v) (fun _ => some true) (some false) y2V l (by omega) ?_ ?_).trans ?_
 ·intro again i h0 h1
  have hw : Go.IntKind.wrap .i64 (i + 1) = i + 1 := w64 (by omega) (by omega)
  unfold wH
  simp only [Bool.cond_eq_ite, decide_eq_true_eq, h0, h1, if_true, hw]
  rfl
 ·intro again i hi
  unfold wH
  simp only [Bool.cond_eq_ite, decide_eq_true_eq, if_neg hi]
 ·unfold yhd
  by_cases h : zE (fun a : Int => a == v) l 0 < 0
  ·rw [if_pos h, decide_eq_false (by omega)]
  ·rw [if_neg h, decide_eq_true (by omega)]
theorem yca (l : List Int) (v : Int) (hl : l.length ≤ 1073741824) : Yy (l, v) = some (yhd l v) := by
 have key : Zm (l, v) = some (zE (fun a : Int => a == v) l 0) := by
  unfold Zm ve
  refine (Yz (step := YI _ _) (fun i => (l, v, (l.length : Int), i)) (fun a : Int => a == v) (fun x => some x) (some (-1)) y2V l (by omega) ?_ ?_).trans ?_
  ·intro again i h0 h1
   have hw : Go.IntKind.wrap .i64 (i + 1) = i + 1 := w64 (by omega) (by omega)
   unfold YI
   have e : (v == (zt l i)) = ((zt l i) == v) := Bool.beq_comm
   simp only [Bool.cond_eq_ite, decide_eq_true_eq, h0, h1, if_true, hw, e]
   rfl
  ·intro again i hi
   unfold YI
   simp only [Bool.cond_eq_ite, decide_eq_true_eq, if_neg hi]
  ·rcases Yh (fun a : Int => a == v) y2V l 0 (Int.le_refl _) with h | ⟨h1, h2, h3⟩
   ·rw [h]
    rfl
   ·rw [if_neg (by omega)]
 unfold Yy
 rw [key]
 rfl
def Kf (l : List y9) : Nat → Int → List Int
 | 0, _ => []
 | n + 1, at_ => if at_ < 0 then [] else (l.getD at_.toNat yx).1 :: Kf l n (yS l (l.getD at_.toNat yx).2)
def yN (l : List y9) (id : Int) : List Int := Kf l (l.length + 1) (yS l id)
theorem kw (l : List y9) (n : Nat) (i : Int) (h : 0 ≤ i) : Kf l (n + 1) i = (l.getD i.toNat yx).1 :: Kf l n (yS l (l.getD i.toNat yx).2) := by rw [Kf, if_neg (by omega)]
theorem ygl (l : List y9) (n : Nat) : Kf l n (-1) = [] := by cases n <;> simp [Kf]
theorem ya5 (l : List y9) : ∀ (n : Nat) (i : Int), (Kf l n i).length ≤ n
 | 0, _ => by simp [Kf]
 | n + 1, i => by
  rw [Kf]
  split
  ·simp
  ·have := ya5 l n (yS l (l.getD i.toNat yx).2)
   simp only [List.length_cons]
   omega
theorem y1m (l : List y9) (id : Int) (hl : l.length ≤ 1048576) : w9 (l, id) = some (yN l id) := by
 unfold w9 y00 yN
 rw [Zw l id (by omega), Option.bind_some]
 have key := Zv (step := WN (fun x4 => some x4)) (fun t : WM => l.length + 1 - t.2.2.length) (fun t => t.1 = l ∧ t.2.2.length ≤ l.length + 1 ∧ ∃ id, t.2.1 = yS l id) (fun t => some (t.2.2 ++ Kf l (l.length + 1 - t.2.2.length) t.2.1)) ?_ (l, yS l id, []) ⟨rfl, by simp, id, rfl⟩ (by simp; omega)
 ·simpa using key
 ·rintro again ⟨l', at_, o⟩ ⟨hll, ho, id', hid⟩ hag
  simp only at hll ho hid
  subst hll hid
  unfold WN
  simp only [Bool.cond_eq_ite, decide_eq_true_eq, List.length_cons, List.length_nil, Nat.zero_add]
  rcases y0W l' id' with h | ⟨h1, h2, h3⟩
  ·rw [h]
   have : Kf l' (l'.length + 1 - o.length) (-1) = [] := by
    cases l'.length + 1 - o.length <;> simp [Kf]
   simp [this]
  ·simp only [ge_iff_le, h1, if_true, h2]
   by_cases hlen : (o.length : Int) ≤ (l'.length : Int)
   ·have e := Zw l' (yG l' (yS l' id')).2 (by omega)
    rw [show l'.length + 1 - o.length = (l'.length - o.length) + 1 by omega, kw _ _ _ h1]
    simp only [hlen, decide_true, Option.bind_some, if_true, e]
    have hl1 : (o ++ [(yG l' (yS l' id')).1]).length = o.length + 1 := by simp
    rw [if_pos (by omega), hag (l', yS l' (yG l' (yS l' id')).2, o ++ [(yG l' (yS l' id')).1]) ⟨rfl, by show (o ++ [(yG l' (yS l' id')).1]).length ≤ _; omega, _, rfl⟩ (by show l'.length + 1 - (o ++ [(yG l' (yS l' id')).1]).length < l'.length + 1 - o.length; omega)]
    simp only [hl1]
    rw [show l'.length + 1 - (o.length + 1) = l'.length - o.length by omega, List.append_assoc]
    rfl
   ·rw [show l'.length + 1 - o.length = 0 by omega]
    simp [hlen, Kf]
theorem y1n (l : List y9) (id : Int) (hl : l.length ≤ 1048576) : we (l, id) = some (yN l id) := by
 unfold we y08 yN
 simp only
 rw [w64 (n := (l.length : Int) + 1) (by omega) (by omega)]
 have key := Zv (step := ka (fun x2 => some x2)) (fun t : k9 => l.length + 1 - t.2.2.2.2.length) (fun t => t.1 = l ∧ t.2.2.1 = (l.length : Int) + 1 ∧ t.2.2.2.1 = (t.2.2.2.2.length : Int) ∧ t.2.2.2.2.length ≤ l.length + 1) (fun t => some (t.2.2.2.2 ++ Kf l (l.length + 1 - t.2.2.2.2.length) (yS l t.2.1))) ?_ (l, id, (l.length : Int) + 1, 0, []) ⟨rfl, rfl, by simp, by simp⟩ (by simp; omega)
 ·simpa using key
 ·rintro again ⟨l', id', n, i, o⟩ ⟨hll, hn, hi, ho⟩ hag
  simp only at hll ho hn hi
  subst hll hn hi
  unfold ka
  have e := kv l' id' (by omega)
  simp only [Bool.cond_eq_ite, decide_eq_true_eq, e, Option.bind_some, List.length_cons, List.length_nil, Nat.zero_add]
  by_cases hlen : (o.length : Int) < (l'.length : Int) + 1
  ·rw [if_pos hlen, show l'.length + 1 - o.length = (l'.length - o.length) + 1 by omega]
   rcases y0W l' id' with h | ⟨h1, h2, h3⟩
   ·rw [h, ygl]
    simp
   ·have hw : Go.IntKind.wrap .i64 ((o.length : Int) + 1) = (o.length : Int) + 1 := w64 (by omega) (by omega)
    have hl1 : (o ++ [id']).length = o.length + 1 := by simp
    rw [kw _ _ _ h1, if_neg (by omega), if_pos (by omega), if_pos h1, if_pos h2, hw, hag (l', (yG l' (yS l' id')).2, (l'.length : Int) + 1, (o.length : Int) + 1, o ++ [id']) ⟨rfl, rfl, by show _ = ((o ++ [id']).length : Int); rw [hl1]; rfl, by show (o ++ [id']).length ≤ _; omega⟩ (by show l'.length + 1 - (o ++ [id']).length < l'.length + 1 - o.length; omega), h3]
    simp only [hl1]
    rw [show l'.length + 1 - (o.length + 1) = l'.length - o.length by omega, List.append_assoc]
    rfl
  ·rw [if_neg hlen, show l'.length + 1 - o.length = 0 by omega]
   simp [Kf]
end Go.Proofs.YtjllpipmaejeoaaGreat.Pl
namespace Go.Proofs.YtjllpipmaejeoaaGreat.Pl
open Go.Proofs.YtjllpipmaejeoaaGreat.R Go.Proofs.YtjllpipmaejeoaaGreat.XV
theorem ZG (x a b : Int) : yB (x, a, b) = some (inR x a b) := by
 unfold yB inR
 by_cases h : x ≥ a <;> simp [h]
theorem jh (x a b : Int) : yL (x, a, b) = some (inR x a b) := by
 unfold yL inR
 by_cases h : x ≥ a <;> simp [h]
theorem bi (x y : Int) : ((x == y) = true) = (x = y) := by simp
end Go.Proofs.YtjllpipmaejeoaaGreat.Pl
namespace Go.Proofs.YtjllpipmaejeoaaGreat.Pl
open Go.Proofs.YtjllpipmaejeoaaGreat.R Go.Proofs.YtjllpipmaejeoaaGreat.XV
def Yq {A : Type} (p : Int → A → Bool) : List A → Int → Bool
 | [], _ => false
 | a :: l, i => p i a || Yq p l (i + 1)
theorem ycb {A : Type} (p q : Int → A → Bool) : ∀ (l : List A) (i : Int), Yq (fun i a => p i a || q i a) l i = (Yq p l i || Yq q l i)
 | [], _ => rfl
 | a :: l, i => by
  rw [Yq, Yq, Yq, ycb p q l (i + 1)]
  cases p i a <;> cases q i a <;> cases Yq p l (i + 1) <;> rfl
theorem y6K {A : Type} {p q : Int → A → Bool} : ∀ (l : List A) (i : Int), (∀ j a, i ≤ j → p j a = q j a) → Yq p l i = Yq q l i
 | [], _, _ => rfl
 | a :: l, i, h => by rw [Yq, Yq, h i a (Int.le_refl _), y6K l (i + 1) (fun j a hj => h j a (by omega))]
theorem Ja {A : Type} (da : A) {p : Int → A → Bool} : ∀ (l : List A) (i : Int), Yq p l i = false → ∀ j : Nat, j < l.length → p (i + j) (l.getD j da) = false
 | a :: l, i, h, 0, _ => by
  rw [Yq, Bool.or_eq_false_iff] at h
  simpa using h.1
 | a :: l, i, h, j + 1, hj => by
  rw [Yq, Bool.or_eq_false_iff] at h
  have := Ja da l (i + 1) h.2 j (by simpa using hj)
  rw [show i + ((j + 1 : Nat) : Int) = i + 1 + (j : Int) by omega, List.getD_cons_succ]
  exact this
theorem y4k {A S R : Type} (p : Int → A → Bool) (f : S → A → S) (r : Option R) (k : S → Option R) : ∀ (l : List A) (i : Int) (s : S), y9f (fun i s a => if p i a = true then .error r else .ok (f s a)) k l i s = if Yq p l i = true then r else k (l.foldl f s)
 | [], _, _ => by simp [y9f, Yq]
 | a :: l, i, s => by
  rw [y9f, Yq]
  by_cases h : p i a = true
  ·simp [h]
  ·have hf : p i a = false := by simpa using h
   simp only [hf, Bool.false_eq_true, if_false, Bool.false_or, List.foldl_cons]
   exact y4k p f r k l (i + 1) (f s a)
theorem y55 {T A S R : Type} {step : (T → Option R) → T → Option R} (mk : Int → S → T) (g : Int → S → A → Except (Option R) S) (k : S → Option R) (da : A) (l : List A) (hl : l.length ≤ 1099511627776) (I : Nat → S → Prop)
  (h : ∀ again i s, 0 ≤ i → i < (l.length : Int) → I i.toNat s → (step again (mk i s) = match g i s (l.getD i.toNat da) with
   | .error r => r
   | .ok s' => again (mk (i + 1) s')) ∧ ∀ s', g i s (l.getD i.toNat da) = .ok s' → I (i.toNat + 1) s')
  (hd : ∀ again i s, ¬ i < (l.length : Int) → step again (mk i s) = k s) (i0 : Int) (h00 : 0 ≤ i0) (s : S) (hs : I i0.toNat s) : zS step Y4 (mk i0 s) = y9f g k (l.drop i0.toNat) i0 s := by
 have key : ∀ (n : Nat) (i : Int) (s : S), 0 ≤ i → I i.toNat s → l.length - i.toNat < n → zS step n (mk i s) = y9f g k (l.drop i.toNat) i s := by
  intro n
  induction n with
  | zero => intro i s _ _ hn; omega
  | succ n ih =>
   intro i s h0 hI hn
   rw [zS]
   by_cases hi : i < (l.length : Int)
   ·obtain ⟨e, hI'⟩ := h (zS step n) i s h0 hi hI
    have e1 : (i + 1).toNat = i.toNat + 1 := by omega
    rw [e, JO da l i h0 hi, y9f]
    cases hg : g i s (l.getD i.toNat da) with
    | error r => rfl
    | ok s' => exact ih (i + 1) s' (by omega) (by rw [e1]; exact hI' s' hg) (by omega)
   ·rw [hd _ i s hi, List.drop_of_length_le (by omega)]
    rfl
 exact key Y4 i0 s h00 hs (by rw [y1C]; omega)
theorem y4l {T A S R : Type} {step : (T → Option R) → T → Option R} (mk : Int → S → T) (p : Int → A → Bool) (f : S → A → S) (r : Option R) (k : S → Option R) (da : A) (l : List A) (hl : l.length ≤ 1099511627776)
  (h : ∀ again i s, 0 ≤ i → i < (l.length : Int) → step again (mk i s) = if p i (l.getD i.toNat da) = true then r else again (mk (i + 1) (f s (l.getD i.toNat da))))
  (hd : ∀ again i s, ¬ i < (l.length : Int) → step again (mk i s) = k s) (s : S) : zS step Y4 (mk 0 s) = if Yq p l 0 = true then r else k (l.foldl f s) := by
 rw [← y4k p f r k l 0 s]
 have := y55 (step := step) mk (fun i s a => if p i a = true then .error r else .ok (f s a)) k da l hl (fun _ _ => True) (fun again i s h0 h1 _ => ⟨?_, fun _ _ => trivial⟩) hd 0 (Int.le_refl _) s trivial
 ·simpa using this
 ·rw [h again i s h0 h1]
  by_cases hp : p i (l.getD i.toNat da) = true
  ·rw [if_pos hp, if_pos hp]
  ·rw [if_neg hp, if_neg hp]
theorem zQ {T A R : Type} {step : (T → Option R) → T → Option R} (mk : Int → T) (p : Int → A → Bool) (r k : Option R) (da : A) (l : List A) (hl : l.length ≤ 1099511627776)
  (h : ∀ again i, 0 ≤ i → i < (l.length : Int) → step again (mk i) = if p i (l.getD i.toNat da) = true then r else again (mk (i + 1)))
  (hd : ∀ again i, ¬ i < (l.length : Int) → step again (mk i) = k) : zS step Y4 (mk 0) = if Yq p l 0 = true then r else k :=
 y4l (fun i (_ : Unit) => mk i) p (fun _ _ => ()) r (fun _ => k) da l hl (fun again i _ h0 h1 => h again i h0 h1) (fun again i _ hi => hd again i hi) ()
end Go.Proofs.YtjllpipmaejeoaaGreat.Pl
namespace Go.Proofs.YtjllpipmaejeoaaGreat.Pl
open Go.Proofs.YtjllpipmaejeoaaGreat.R Go.Proofs.YtjllpipmaejeoaaGreat.XV
def y0n (blk : Int) (s : List y7) (a : y7) : List y7 := if a.1 == blk then s ++ [a] else s
def zF (ks : List y7) (blk : Int) : List y7 := ks.foldl (y0n blk) []
theorem y2Y (blk : Int) (s : List y7) (a : y7) : (y0n blk s a).length ≤ s.length + 1 := by
 unfold y0n
 split <;> simp
theorem y56 (blk : Int) : ∀ (l s : List y7), (l.foldl (y0n blk) s).length ≤ s.length + l.length
 | [], s => by simp
 | c :: l, s => by
  have h := y56 blk l (y0n blk s c)
  have h2 := y2Y blk s c
  simp only [List.foldl_cons, List.length_cons]
  omega
theorem ya6 : ∀ (t : List y0) (s : List y7), ((t.foldl ku s).length : Int) ≤ s.length + kt Qz t
 | [], s => by simp [kt]
 | n :: t, s => by
  have h := ya6 t (ku s n)
  have h1 := KK n
  have h2 := y2j n
  have h3 : (ku s n).length = s.length + (yz n).length := List.length_append
  simp only [List.foldl_cons, Yj]
  omega
theorem ygm (t : List y0) : ((yc t).length : Int) ≤ kt Qz t := by
 have := ya6 t []
 simpa [yc] using this
structure TOk (t : List y0) : Prop where
 len : t.length ≤ 1048576
 nodes : ∀ n ∈ t, List.length n ≤ 1073741824
 sum : kt Qz t ≤ 1048576
theorem TOk.keys {t : List y0} (h : TOk t) : (yc t).length ≤ 1048576 := by
 have h1 := ygm t
 have h2 := h.sum
 omega
theorem y5W (q : List Int) (t : List y0) (blk : Int) (ht : TOk t) : WO (q, t, blk) = some (zF (yc t) blk) := by
 unfold WO y01
 have hk := ht.keys
 have e : yP (q, t) = some (yc t) := YG q t (by have := ht.len; omega) ht.nodes ht.sum
 simp only [e, Option.bind_some]
 generalize yc t = ks at hk
 refine Ye (step := Jp _) (fun (i : Int) (s : List y7) => (blk, i, s, ks)) (fun s => some s) yH (y0n blk) ks (by omega) (fun i s => s.length ≤ i) ?_ ?_ [] (by simp)
 ·intro again i s h0 h1 hI
  have hw : Go.IntKind.wrap .i64 (i + 1) = i + 1 := w64 (by omega) (by omega)
  have hs := y2Y blk s (ks.getD i.toNat yH)
  refine ⟨?_, by omega⟩
  have c1 : (s.length + 1) * 40 < 140737488355328 := by omega
  clear hs
  unfold Jp y0n
  obtain ⟨⟨x1, x2, x3, x4, x5⟩, hx⟩ : ∃ x, y6 ks i = x := ⟨_, rfl⟩
  have hx' : ks.getD i.toNat yH = (x1, x2, x3, x4, x5) := hx
  rw [hx']
  simp only [Bool.cond_eq_ite, decide_eq_true_eq, h0, h1, if_true, hw, hx, List.length_cons, List.length_nil, Nat.zero_add, c1]
  by_cases h3 : (x1 == blk) = true
  ·rw [if_pos h3, if_pos h3]
  ·rw [if_neg h3, if_neg h3]
 ·intro again i s hi
  unfold Jp
  simp only [Bool.cond_eq_ite, decide_eq_true_eq, if_neg hi]
theorem y5X (q : List Int) (t : List y0) (blk : Int) (ht : TOk t) : k8 (q, t, blk) = some (zF (yc t) blk) := by
 unfold k8 y06
 have hk := ht.keys
 have e : za (q, t) = some (yc t) := jU q t (by have := ht.len; omega) ht.nodes ht.sum
 simp only [e, Option.bind_some]
 generalize yc t = ks at hk
 refine Ye (step := JD _) (fun (i : Int) (s : List y7) => (blk, (ks.length : Int), i, s, ks)) (fun s => some s) yH (y0n blk) ks (by omega) (fun i s => s.length ≤ i) ?_ ?_ [] (by simp)
 ·intro again i s h0 h1 hI
  have hw : Go.IntKind.wrap .i64 (i + 1) = i + 1 := w64 (by omega) (by omega)
  have hs := y2Y blk s (ks.getD i.toNat yH)
  refine ⟨?_, by omega⟩
  have c1 : (s.length + 1) * 40 < 140737488355328 := by omega
  clear hs
  unfold JD y0n
  obtain ⟨⟨x1, x2, x3, x4, x5⟩, hx⟩ : ∃ x, y6 ks i = x := ⟨_, rfl⟩
  have hx' : ks.getD i.toNat yH = (x1, x2, x3, x4, x5) := hx
  rw [hx']
  simp only [Bool.cond_eq_ite, decide_eq_true_eq, h0, h1, if_true, hw, hx, List.length_cons, List.length_nil, Nat.zero_add, c1]
  by_cases h3 : (x1 == blk) = true
  ·rw [if_pos h3, if_pos h3]
  ·rw [if_neg h3, if_neg h3]
 ·intro again i s hi
  unfold JD
  simp only [Bool.cond_eq_ite, decide_eq_true_eq, if_neg hi]
def W9 (path : List Int) (s : Bool × y7) (a : y7) : Bool × y7 := if yhd path a.2.1 = true ∧ (s.1 = false ∨ s.2.2.1 < a.2.1) then (true, a) else s
def zB (ks : List y7) (path : List Int) : Bool × y7 := ks.foldl (W9 path) (false, (0, 0, 0, 0, 0))
def ans (r : Bool × y7) : Int × Int × Int × Int × Int × Bool := (r.2.1, r.2.2.1, r.2.2.2.1, r.2.2.2.2.1, r.2.2.2.2.2, r.1)
theorem y3x (q : List Int) (t : List y0) (blk : Int) (path : List Int) (ht : TOk t) (hp : path.length ≤ 1073741824) : jv (q, t, blk, path) = some (ans (zB (zF (yc t) blk) path)) := by
 unfold jv y02
 have hk : (zF (yc t) blk).length ≤ 1048576 := by
  have h1 := y56 blk (yc t) []
  have h2 := ht.keys
  unfold zF
  simp only [List.length_nil] at h1
  omega
 simp only [y5W q t blk ht, Option.bind_some]
 generalize zF (yc t) blk = ks at hk
 refine (Ye (step := Jq _) (fun (i : Int) (s : Bool × y7) => (path, s.1, i, 0, 0, 0, 0, 0, s.2.1, s.2.2.1, s.2.2.2.1, s.2.2.2.2.1, s.2.2.2.2.2, ks)) (fun s => some (ans s)) yH (W9 path) ks (by omega) (fun _ _ => True) ?_ ?_ (false, (0, 0, 0, 0, 0)) trivial)
 ·rintro again i ⟨f, b1, b2, b3, b4, b5⟩ h0 h1 _
  have hw : Go.IntKind.wrap .i64 (i + 1) = i + 1 := w64 (by omega) (by omega)
  refine ⟨?_, trivial⟩
  unfold Jq W9
  obtain ⟨⟨x1, x2, x3, x4, x5⟩, hx⟩ : ∃ x, y6 ks i = x := ⟨_, rfl⟩
  have hx' : ks.getD i.toNat yH = (x1, x2, x3, x4, x5) := hx
  rw [hx']
  have e := yc9 path x2 hp
  simp only [Bool.cond_eq_ite, decide_eq_true_eq, h0, h1, if_true, hw, hx, e, Option.bind_some]
  cases yhd path x2 <;> cases f <;> by_cases hb : b2 < x2 <;> simp [hb]
 ·rintro again i ⟨f, b1, b2, b3, b4, b5⟩ hi
  unfold Jq
  simp only [Bool.cond_eq_ite, decide_eq_true_eq, if_neg hi]
  rfl
theorem y1o (q : List Int) (t : List y0) (blk : Int) (path : List Int) (ht : TOk t) (hp : path.length ≤ 1073741824) : jx (q, t, blk, path) = some (ans (zB (zF (yc t) blk) path)) := by
 unfold jx y07
 have hk : (zF (yc t) blk).length ≤ 1048576 := by
  have h1 := y56 blk (yc t) []
  have h2 := ht.keys
  unfold zF
  simp only [List.length_nil] at h1
  omega
 simp only [y5X q t blk ht, Option.bind_some]
 generalize zF (yc t) blk = ks at hk
 refine (Ye (step := JE _) (fun (i : Int) (s : Bool × y7) => (path, s.1, (ks.length : Int), i, 0, 0, 0, 0, 0, s.2.1, s.2.2.1, s.2.2.2.1, s.2.2.2.2.1, s.2.2.2.2.2, ks)) (fun s => some (ans s)) yH (W9 path) ks (by omega) (fun _ _ => True) ?_ ?_ (false, (0, 0, 0, 0, 0)) trivial)
 ·rintro again i ⟨f, b1, b2, b3, b4, b5⟩ h0 h1 _
  have hw : Go.IntKind.wrap .i64 (i + 1) = i + 1 := w64 (by omega) (by omega)
  refine ⟨?_, trivial⟩
  unfold JE W9
  obtain ⟨⟨x1, x2, x3, x4, x5⟩, hx⟩ : ∃ x, y6 ks i = x := ⟨_, rfl⟩
  have hx' : ks.getD i.toNat yH = (x1, x2, x3, x4, x5) := hx
  rw [hx']
  have e := yca path x2 hp
  simp only [Bool.cond_eq_ite, decide_eq_true_eq, h0, h1, if_true, hw, hx, e, Option.bind_some]
  cases yhd path x2 <;> cases f <;> by_cases hb : b2 < x2 <;> simp [hb]
 ·rintro again i ⟨f, b1, b2, b3, b4, b5⟩ hi
  unfold JE
  simp only [Bool.cond_eq_ite, decide_eq_true_eq, if_neg hi]
  rfl
def ya7 (t : List y0) (l : List y9) (blk id : Int) : Bool × y7 := zB (zF (yc t) blk) (yN l id)
theorem y0X (l : List y9) (id : Int) (hl : l.length ≤ 1048576) : (yN l id).length ≤ 1073741824 := by
 have := ya5 l (l.length + 1) (yS l id)
 unfold yN
 omega
theorem ya8 (q : List Int) (t : List y0) (l : List y9) (blk id : Int) (ht : TOk t) (hl : l.length ≤ 1048576) : vY (q, t, l, blk, id) = some (ans (ya7 t l blk id)) := by
 unfold vY
 simp only [y1m l id hl, y3x q t blk _ ht (y0X l id hl), Option.bind_some]
 rfl
theorem y3y (q : List Int) (t : List y0) (l : List y9) (blk id : Int) (ht : TOk t) (hl : l.length ≤ 1048576) : K5 (q, t, l, blk, id) = some (ans (ya7 t l blk id)) := by
 unfold K5
 simp only [y1n l id hl, y1o q t blk _ ht (y0X l id hl), Option.bind_some]
 rfl
def y8I (t : List y0) (l : List y9) (k : y7) (id : Int) : Bool := (ya7 t l k.1 id).1 && ((ya7 t l k.1 id).2.2.1 == k.2.1)
theorem ya9 (q : List Int) (t : List y0) (l : List y9) (k1 k2 k3 k4 k5 id : Int) (ht : TOk t) (hl : l.length ≤ 1048576) : vZ (q, t, l, k1, k2, k3, k4, k5, id) = some (y8I t l (k1, k2, k3, k4, k5) id) := by
 unfold vZ y8I
 simp only [ya8 q t l k1 id ht hl, Option.bind_some, ans]
 cases (ya7 t l k1 id).1 <;> rfl
theorem yaa (q : List Int) (t : List y0) (l : List y9) (k1 k2 k3 k4 k5 id : Int) (ht : TOk t) (hl : l.length ≤ 1048576) : Vf (q, t, l, k1, k2, k3, k4, k5, id) = some (y8I t l (k1, k2, k3, k4, k5) id) := by
 unfold Vf y8I
 simp only [y3y q t l k1 id ht hl, Option.bind_some, ans]
 cases (ya7 t l k1 id).1 <;> rfl
def Kg (t : List y0) (l : List y9) (k : y7) (v : yh) : Bool := decide (v.2.2.1 > k.1) && y8I t l k v.2.1
def y1I (t : List y0) (l : List y9) (vs : List yh) (k : y7) : Bool := decide (0 ≤ zE (Kg t l k) vs 0)
theorem y2Z (q : List Int) (t : List y0) (l : List y9) (cs : List y8) (vs : List yh) (z k1 k2 k3 k4 k5 : Int) (ht : TOk t) (hl : l.length ≤ 1048576) (hv : vs.length ≤ 1048576) : jK (q, t, l, cs, vs, z, k1, k2, k3, k4, k5) = some (y1I t l vs (k1, k2, k3, k4, k5)) := by
 unfold jK VD
 refine (Yz (step := Zh _ _) (fun i => (i, q, t, l, cs, vs, z, k1, k2, k3, k4, k5)) (Kg t l (k1, k2, k3, k4, k5)) (fun _ => some true) (some false) Y2 vs (by omega) ?_ ?_).trans ?_
 ·intro again i h0 h1
  have hw : Go.IntKind.wrap .i64 (i + 1) = i + 1 := w64 (by omega) (by omega)
  unfold Zh Kg
  obtain ⟨⟨x1, x2, x3, x4⟩, hx⟩ : ∃ x, yi vs i = x := ⟨_, rfl⟩
  have hx' : vs.getD i.toNat Y2 = (x1, x2, x3, x4) := hx
  rw [hx']
  have e := ya9 q t l k1 k2 k3 k4 k5 x2 ht hl
  simp only [Bool.cond_eq_ite, decide_eq_true_eq, h0, h1, if_true, hw, hx, e, Option.bind_some]
  by_cases hb : x3 > k1 <;> cases y8I t l (k1, k2, k3, k4, k5) x2 <;> simp [hb]
 ·intro again i hi
  unfold Zh
  simp only [Bool.cond_eq_ite, decide_eq_true_eq, if_neg hi]
 ·unfold y1I
  by_cases h : zE (Kg t l (k1, k2, k3, k4, k5)) vs 0 < 0
  ·rw [if_pos h, decide_eq_false (by omega)]
  ·rw [if_neg h, decide_eq_true (by omega)]
theorem y30 (q : List Int) (t : List y0) (l : List y9) (cs : List y8) (vs : List yh) (z k1 k2 k3 k4 k5 : Int) (ht : TOk t) (hl : l.length ≤ 1048576) (hv : vs.length ≤ 1048576) : jP (q, t, l, cs, vs, z, k1, k2, k3, k4, k5) = some (y1I t l vs (k1, k2, k3, k4, k5)) := by
 unfold jP VI
 refine (Yz (step := Zr _ _) (fun i => (vs, (vs.length : Int), i, q, t, l, cs, vs, z, k1, k2, k3, k4, k5)) (Kg t l (k1, k2, k3, k4, k5)) (fun _ => some true) (some false) Y2 vs (by omega) ?_ ?_).trans ?_
 ·intro again i h0 h1
  have hw : Go.IntKind.wrap .i64 (i + 1) = i + 1 := w64 (by omega) (by omega)
  unfold Zr Kg
  obtain ⟨⟨x1, x2, x3, x4⟩, hx⟩ : ∃ x, yi vs i = x := ⟨_, rfl⟩
  have hx' : vs.getD i.toNat Y2 = (x1, x2, x3, x4) := hx
  rw [hx']
  have e := yaa q t l k1 k2 k3 k4 k5 x2 ht hl
  simp only [Bool.cond_eq_ite, decide_eq_true_eq, h0, h1, if_true, hw, hx, e, Option.bind_some]
  by_cases hb : x3 > k1 <;> cases y8I t l (k1, k2, k3, k4, k5) x2 <;> simp [hb]
 ·intro again i hi
  unfold Zr
  simp only [Bool.cond_eq_ite, decide_eq_true_eq, if_neg hi]
 ·unfold y1I
  by_cases h : zE (Kg t l (k1, k2, k3, k4, k5)) vs 0 < 0
  ·rw [if_pos h, decide_eq_false (by omega)]
  ·rw [if_neg h, decide_eq_true (by omega)]
end Go.Proofs.YtjllpipmaejeoaaGreat.Pl
namespace Go.Proofs.YtjllpipmaejeoaaGreat.Pl
open Go.Proofs.YtjllpipmaejeoaaGreat.R Go.Proofs.YtjllpipmaejeoaaGreat.XV
def zR (k : y7) : Bool := inR k.1 0 15 && (inR k.2.1 1 60 && (inR k.2.2.1 0 2 && (if k.2.2.1 = 1 then inR k.2.2.2.1 0 23 && inR k.2.2.2.2 0 999 else (k.2.2.2.1 == 0) && (k.2.2.2.2 == 0))))
theorem y2k (a b c d e : Int) : Wh (a, b, c, d, e) = some (zR (a, b, c, d, e)) := by
 unfold Wh zR
 simp only [ZG, Option.bind_some]
 by_cases hc : c = 1
 ·subst hc
  cases inR a 0 15 <;> cases inR b 1 60 <;> cases inR 1 0 2 <;> cases inR d 0 23 <;> rfl
 ·have hc' : (c == 1) = false := by simpa using hc
  rw [hc', if_neg hc]
  cases inR a 0 15 <;> cases inR b 1 60 <;> cases inR c 0 2 <;> cases (d == 0) <;> rfl
theorem y2l (a b c d e : Int) : Wk (a, b, c, d, e) = some (zR (a, b, c, d, e)) := by
 unfold Wk zR
 simp only [jh, Option.bind_some]
 by_cases hc : c = 1
 ·subst hc
  cases inR a 0 15 <;> cases inR b 1 60 <;> cases inR 1 0 2 <;> cases inR d 0 23 <;> rfl
 ·have hc' : (c != 1) = true := by simpa using hc
  rw [hc', if_neg hc]
  cases inR a 0 15 <;> cases inR b 1 60 <;> cases inR c 0 2 <;> cases (d == 0) <;> rfl
def ws (l : List y7) (i : Int) (a : y7) : Bool := decide (0 < i) && !W7 (l.getD (i - 1).toNat yH) a
def Wn (l : List y7) : Bool := !Yq (fun _ a => !zR a) l 0 && (!Yq (ws l) l 0 && decide ((l.length : Int) ≤ 60))
theorem y8J (l : List y7) (hl : l.length ≤ 1073741824) : wx l = some (!Yq (ws l) l 0) := by
 unfold wx Qk
 have key := y55 (step := jC (fun x2 => some x2) (fun x3 => some true)) (fun i (_ : Unit) => (l, i)) (fun i (s : Unit) a => if (decide (0 < i) && !W7 (l.getD (i - 1).toNat yH) a) = true ∨ i = 0 then .error (some false) else .ok s) (fun _ => some true) yH l (by omega) (fun i _ => 1 ≤ i) ?_ ?_ 1 (by omega) () (by decide)
 ·rw [key]
  have h1 : Yq (ws l) l 0 = Yq (ws l) (l.drop 1) 1 := by
   cases l with
   | nil => rfl
   | cons a l => simp [Yq, ws]
  rw [h1]
  have h2 := y4k (fun i a => decide ((decide (0 < i) && !W7 (l.getD (i - 1).toNat yH) a) = true ∨ i = 0)) (fun (s : Unit) _ => s) (some false) (fun _ => some true) (l.drop 1) 1 ()
  simp only [decide_eq_true_eq] at h2
  rw [show (1 : Int).toNat = 1 from rfl, h2]
  have h3 : Yq (fun i a => decide ((decide (0 < i) && !W7 (l.getD (i - 1).toNat yH) a) = true ∨ i = 0)) (l.drop 1) 1 = Yq (ws l) (l.drop 1) 1 := y6K _ _ fun j a hj => by
   unfold ws
   have : ¬ j = 0 := by omega
   simp [this]
  rw [h3]
  cases Yq (ws l) (l.drop 1) 1 <;> rfl
 ·intro again i s h0 h1 hI
  have hi : 1 ≤ i := by
   have : (1 : Nat) ≤ i.toNat := hI
   omega
  have hw : Go.IntKind.wrap .i64 (i + 1) = i + 1 := w64 (by omega) (by omega)
  have hm : Go.IntKind.wrap .i64 (i - 1) = i - 1 := w64 (by omega) (by omega)
  refine ⟨?_, fun _ _ => by omega⟩
  unfold jC
  obtain ⟨⟨x1, x2, x3, x4, x5⟩, hx⟩ : ∃ x, y6 l i = x := ⟨_, rfl⟩
  have hx' : l.getD i.toNat yH = (x1, x2, x3, x4, x5) := hx
  obtain ⟨⟨y1, y2, y3, y4, y5⟩, hy⟩ : ∃ y, y6 l (i - 1) = y := ⟨_, rfl⟩
  have hy' : l.getD (i - 1).toNat yH = (y1, y2, y3, y4, y5) := hy
  rw [hx', hy']
  have h3 : 0 ≤ i - 1 := by omega
  have h4 : i - 1 < (l.length : Int) := by omega
  have h5 : 0 < i := by omega
  have h6 : ¬ i = 0 := by omega
  simp only [Bool.cond_eq_ite, decide_eq_true_eq, h0, h1, if_true, hw, hm, hx, hy, h3, h4, h5, h6, y0k, Option.bind_some, decide_true, Bool.true_and, or_false]
  cases W7 (y1, y2, y3, y4, y5) (x1, x2, x3, x4, x5) <;> rfl
 ·intro again i s hi
  unfold jC
  simp only [Bool.cond_eq_ite, decide_eq_true_eq, if_neg hi]
theorem y8K (l : List y7) (hl : l.length ≤ 1073741824) : KG l = some (Wn l) := by
 unfold KG y1f Wn
 refine (zQ (step := wy _ _) (fun i => (l, i)) (fun _ a => !zR a) (some false) (some (!Yq (ws l) l 0 && decide ((l.length : Int) ≤ 60))) yH l (by omega) ?_ ?_).trans ?_
 ·intro again i h0 h1
  have hw : Go.IntKind.wrap .i64 (i + 1) = i + 1 := w64 (by omega) (by omega)
  unfold wy
  obtain ⟨⟨x1, x2, x3, x4, x5⟩, hx⟩ : ∃ x, y6 l i = x := ⟨_, rfl⟩
  have hx' : l.getD i.toNat yH = (x1, x2, x3, x4, x5) := hx
  rw [hx']
  simp only [Bool.cond_eq_ite, decide_eq_true_eq, h0, h1, if_true, hw, hx, y2k, Option.bind_some]
 ·intro again i hi
  unfold wy
  simp only [Bool.cond_eq_ite, decide_eq_true_eq, if_neg hi, y8J l hl, Option.bind_some]
  cases Yq (ws l) l 0 <;> rfl
 ·cases Yq (fun _ a => !zR a) l 0 <;> rfl
theorem y8L (l : List y7) (hl : l.length ≤ 1073741824) : KI l = some (Wn l) := by
 unfold KI y1k Wn
 refine (zQ (step := wJ _ _) (fun i => (l, l, (l.length : Int), i)) (fun i a => !zR a || ws l i a) (some false) (some (decide ((l.length : Int) ≤ 60))) yH l (by omega) ?_ ?_).trans ?_
 ·intro again i h0 h1
  have hw : Go.IntKind.wrap .i64 (i + 1) = i + 1 := w64 (by omega) (by omega)
  have hm : Go.IntKind.wrap .i64 (i - 1) = i - 1 := w64 (by omega) (by omega)
  unfold wJ ws
  obtain ⟨⟨x1, x2, x3, x4, x5⟩, hx⟩ : ∃ x, y6 l i = x := ⟨_, rfl⟩
  have hx' : l.getD i.toNat yH = (x1, x2, x3, x4, x5) := hx
  obtain ⟨⟨y1, y2, y3, y4, y5⟩, hy⟩ : ∃ y, y6 l (i - 1) = y := ⟨_, rfl⟩
  have hy' : l.getD (i - 1).toNat yH = (y1, y2, y3, y4, y5) := hy
  rw [hx', hy']
  simp only [Bool.cond_eq_ite, decide_eq_true_eq, h0, h1, if_true, hw, hm, hx, hy, y2l, y0l, Option.bind_some]
  cases zR (x1, x2, x3, x4, x5)
  ·rfl
  ·by_cases h5 : 0 < i
   ·have h3 : 0 ≤ i - 1 := by omega
    have h4 : i - 1 < (l.length : Int) := by omega
    simp only [gt_iff_lt, h5, h3, h4, if_true, decide_true]
    cases W7 (y1, y2, y3, y4, y5) (x1, x2, x3, x4, x5) <;> rfl
   ·simp [h5]
 ·intro again i hi
  unfold wJ
  simp only [Bool.cond_eq_ite, decide_eq_true_eq, if_neg hi]
 ·rw [ycb]
  cases Yq (fun _ a => !zR a) l 0 <;> cases Yq (ws l) l 0 <;> rfl
def y2m (_ : Int) (a : ya) : Bool := !Wn a || ((List.length a : Int) == 0)
def y1p (s : Int) (a : ya) : Int := Go.IntKind.wrap .i64 (s + (List.length a : Int))
def YA (n : List ya) : Bool := !Yq y2m n 0 && (decide ((n.length : Int) ≤ 3) && decide (n.foldl y1p 0 ≤ 8))
theorem y8M (n : List ya) (hn : n.length ≤ 1073741824) : wz n = some (n.foldl y1p 0) := by
 unfold wz Ql
 refine Ye (step := jD _) (fun (i s : Int) => (s, i, n)) (fun s => some s) yY y1p n (by omega) (fun _ _ => True) ?_ ?_ 0 trivial
 ·intro again i s h0 h1 _
  have hw : Go.IntKind.wrap .i64 (i + 1) = i + 1 := w64 (by omega) (by omega)
  refine ⟨?_, trivial⟩
  unfold jD
  simp only [Bool.cond_eq_ite, decide_eq_true_eq, h0, h1, if_true, hw]
  rfl
 ·intro again i s hi
  unfold jD
  simp only [Bool.cond_eq_ite, decide_eq_true_eq, if_neg hi]
theorem VW (n : List ya) (hn : n.length ≤ 1073741824) (hm : ∀ s ∈ n, List.length s ≤ 1073741824) : zz n = some (YA n) := by
 unfold zz QP YA
 refine (zQ (step := Jh _ _) (fun i => (i, n)) y2m (some false) (some (decide ((n.length : Int) ≤ 3) && decide (n.foldl y1p 0 ≤ 8))) yY n (by omega) ?_ ?_).trans ?_
 ·intro again i h0 h1
  have hw : Go.IntKind.wrap .i64 (i + 1) = i + 1 := w64 (by omega) (by omega)
  have e := y8K (yn n i) (hm _ (yW yY n i h0 h1))
  unfold Jh y2m
  have hx : n.getD i.toNat yY = yn n i := rfl
  rw [hx]
  simp only [Bool.cond_eq_ite, decide_eq_true_eq, h0, h1, if_true, hw, e, Option.bind_some]
  cases Wn (yn n i)
  ·rfl
  ·rfl
 ·intro again i hi
  unfold Jh
  simp only [Bool.cond_eq_ite, decide_eq_true_eq, if_neg hi, y8M n hn, Option.bind_some]
  by_cases h3 : (n.length : Int) ≤ 3 <;> simp [h3]
 ·cases Yq y2m n 0 <;> rfl
theorem VX (n : List ya) (hn : n.length ≤ 1073741824) (hm : ∀ s ∈ n, List.length s ≤ 1073741824) : zM n = some (YA n) := by
 unfold zM y0a YA
 refine (y4l (step := JG _ _) (fun (i s : Int) => (s, n, (n.length : Int), i, n)) y2m y1p (some false) (fun s => some (decide ((n.length : Int) ≤ 3) && decide (s ≤ 8))) yY n (by omega) ?_ ?_ 0).trans ?_
 ·intro again i s h0 h1
  have hw : Go.IntKind.wrap .i64 (i + 1) = i + 1 := w64 (by omega) (by omega)
  have e := y8L (yn n i) (hm _ (yW yY n i h0 h1))
  unfold JG y2m y1p
  have hx : n.getD i.toNat yY = yn n i := rfl
  rw [hx]
  simp only [Bool.cond_eq_ite, decide_eq_true_eq, h0, h1, if_true, hw, e, Option.bind_some]
  cases Wn (yn n i)
  ·rfl
  ·rfl
 ·intro again i s hi
  unfold JG
  simp only [Bool.cond_eq_ite, decide_eq_true_eq, if_neg hi]
  by_cases h3 : (n.length : Int) ≤ 3 <;> simp [h3]
 ·cases Yq y2m n 0 <;> rfl
end Go.Proofs.YtjllpipmaejeoaaGreat.Pl
namespace Go.Proofs.YtjllpipmaejeoaaGreat.Pl
open Go.Proofs.YtjllpipmaejeoaaGreat.R Go.Proofs.YtjllpipmaejeoaaGreat.XV
def small (is : List yb) (ns : List y0) (ags : List y9) (cs : List y8) (vs : List yh) : Prop :=
 is.length ≤ 1048576 ∧ ns.length ≤ 1048576 ∧ kt Qz ns ≤ 1048576 ∧ ags.length ≤ 1048576 ∧ cs.length ≤ 1048576 ∧ vs.length ≤ 1048576
theorem vt {ns : List y0} (h : kt Qz ns ≤ 1048576) {n : List ya} (hn : n ∈ ns) : n.length ≤ 1048576 ∧ ∀ s ∈ n, List.length s ≤ 1048576 := by
 have h1 := (y0T KJ hn).1
 have h2 := W6 Ke n
 have h3 : Qz n = (List.length n : Int) + kt qg n := rfl
 refine ⟨by omega, fun s hs => ?_⟩
 have h4 := (y0T Ke hs).1
 have h5 : qg s = (List.length s : Int) := rfl
 omega
end Go.Proofs.YtjllpipmaejeoaaGreat.Pl
namespace Go.Proofs.YtjllpipmaejeoaaGreat.Pl
open Go.Proofs.YtjllpipmaejeoaaGreat.R Go.Proofs.YtjllpipmaejeoaaGreat.XV
def Jb (a : y7) : Int := Go.IntKind.wrap .i64 (Go.IntKind.wrap .i64 ((64 : Int) * a.1) + a.2.1)
def yhe (q : List Int) (i : Int) (_ : Int) (a : y7) : Bool := decide (Jb a < q.getD i.toNat 0) || (decide (i + 1 < (q.length : Int)) && decide (Jb a ≥ q.getD (i + 1).toNat 0))
theorem TOk.node {t : List y0} (h : TOk t) {n : List ya} (hn : n ∈ t) : n.length ≤ 1048576 ∧ ∀ s ∈ n, List.length s ≤ 1048576 := vt h.sum hn
theorem TOk.sumK {t : List y0} (h : TOk t) {n : List ya} (hn : n ∈ t) : kt qg n ≤ 1048576 := by
 have h1 := (y0T KJ hn).1
 have h2 := y2j n
 have h3 := h.sum
 omega
theorem yep {R : Type} (k0 : (Int × Bool × Int × List yb × List y0 × List ya) → Option R) (k1 : (Int × Int × List yb × List y0 × List ya) → Option R) (i k : Int) (q : List Int) (t : List y0) (n : List ya) (hk0 : 0 ≤ k) (hk : k < (n.length : Int)) (hi0 : 0 ≤ i) (hi : i < (q.length : Int)) (hq : q.length ≤ 1048576) (hs : List.length (yn n k) ≤ 1048576) :
  vK k0 k1 (i, k, 0, q, t, n) = if Yq (yhe q i) (yn n k) 0 = true then k0 (i, false, k, q, t, n) else k1 (i, k, q, t, n) := by
 unfold vK
 refine zQ (step := Ji k0 k1) (fun j => (i, k, j, q, t, n)) (yhe q i) _ _ yH (yn n k) (by omega) ?_ ?_
 ·intro again j h0 h1
  have hw : Go.IntKind.wrap .i64 (j + 1) = j + 1 := w64 (by omega) (by omega)
  have hwi : Go.IntKind.wrap .i64 (i + 1) = i + 1 := w64 (by omega) (by omega)
  unfold Ji yhe JY JX Jb
  obtain ⟨⟨x1, x2, x3, x4, x5⟩, hx⟩ : ∃ x, y6 (yn n k) j = x := ⟨_, rfl⟩
  have hx' : (yn n k).getD j.toNat yH = (x1, x2, x3, x4, x5) := hx
  have e1 : q.getD i.toNat 0 = zt q i := rfl
  have e2 : q.getD (i + 1).toNat 0 = zt q (i + 1) := rfl
  rw [hx', e1, e2]
  have hi1 : 0 ≤ i + 1 := by omega
  simp only [Bool.cond_eq_ite, decide_eq_true_eq, h0, h1, hk0, hk, hi0, hi, hi1, if_true, hw, hwi, hx, Option.bind_some]
  by_cases h2 : Go.IntKind.wrap .i64 (Go.IntKind.wrap .i64 ((64 : Int) * x1) + x2) < zt q i
  ·simp [h2]
  ·by_cases h3 : i + 1 < (q.length : Int)
   ·simp [h2, h3]
   ·simp [h2, h3]
 ·intro again j hj
  unfold Ji
  simp only [Bool.cond_eq_ite, decide_eq_true_eq, hk0, hk, if_true, if_neg hj]
def yaZ (q : List Int) (i : Int) (_ : Int) (s : ya) : Bool := Yq (yhe q i) s 0
def y6L (n : y0) : Bool := ((yz n).length : Int) == 0
def y2n (q : List Int) (i : Int) (n : y0) : Bool := YA n && (!(decide (0 < i) && y6L n) && !Yq (yaZ q i) n 0)
theorem y5Y (q : List Int) (t : List y0) (i : Int) (ht : TOk t) (hi0 : 0 ≤ i) (hi : i < (t.length : Int)) (hq : q.length = t.length) : WD (q, t, i) = some (y2n q i (ye t i)) := by
 have hmem : ye t i ∈ t := yW yf t i hi0 hi
 obtain ⟨hn, hs⟩ := ht.node hmem
 have hlen := ht.len
 have hq1 : i < (q.length : Int) := by omega
 have hq2 : q.length ≤ 1048576 := by omega
 have e1 := VW (ye t i) (by omega) (fun s hh => by have := hs s hh; omega)
 have e2 : yC (ye t i) = some (yz (ye t i)) := Za _ (by omega) (ht.sumK hmem)
 unfold WD y2n y6L
 simp only [hi0, hi, if_true, e1, Option.bind_some]
 generalize ye t i = n at *
 cases YA n
 ·rfl
 ·have key : vM (fun x10 => some x10) (fun x11 => some true) (i, 0, q, t, n) = some (!Yq (yaZ q i) n 0) := by
   unfold vM
   refine (zQ (step := Jj _ _) (fun k => (i, k, q, t, n)) (yaZ q i) (some false) (some true) yY n (by omega) ?_ ?_).trans ?_
   ·intro again k h0 h1
    have hw : Go.IntKind.wrap .i64 (k + 1) = k + 1 := w64 (by omega) (by omega)
    have hsk : List.length (yn n k) ≤ 1048576 := hs _ (yW yY n k h0 h1)
    unfold Jj yaZ
    have hx : n.getD k.toNat yY = yn n k := rfl
    rw [hx]
    simp only [Bool.cond_eq_ite, decide_eq_true_eq, h1, if_true, yep _ _ i k q t n h0 h1 hi0 hq1 hq2 hsk, hw]
   ·intro again k hk
    unfold Jj
    simp only [Bool.cond_eq_ite, decide_eq_true_eq, if_neg hk]
   ·cases Yq (yaZ q i) n 0 <;> rfl
  simp only [key, e2, Option.bind_some, Bool.not_true, cond_false, gt_iff_lt]
  by_cases h0 : 0 < i
  ·simp only [h0, decide_true, cond_true, Bool.true_and]
   cases (((yz n).length : Int) == 0) <;> rfl
  ·simp only [h0, decide_false, cond_false, Bool.false_and]
   rfl
theorem yeq {R : Type} (k0 : (Int × Bool × List ya × Int × Int × List yb × List y0) → Option R) (k1 : (Int × List ya × Int × Int × List yb × List y0) → Option R) (i k m : Int) (q : List Int) (t : List y0) (n : List ya) (s : List y7) (hi0 : 0 ≤ i) (hi : i < (q.length : Int)) (hq : q.length ≤ 1048576) (hs : s.length ≤ 1048576) :
  K7 k0 k1 (i, n, m, k, s, (s.length : Int), 0, q, t) = if Yq (yhe q i) s 0 = true then k0 (i, false, n, m, k, q, t) else k1 (i, n, m, k, q, t) := by
 unfold K7
 refine zQ (step := ja k0 k1) (fun j => (i, n, m, k, s, (s.length : Int), j, q, t)) (yhe q i) _ _ yH s (by omega) ?_ ?_
 ·intro again j h0 h1
  have hw : Go.IntKind.wrap .i64 (j + 1) = j + 1 := w64 (by omega) (by omega)
  have hwi : Go.IntKind.wrap .i64 (i + 1) = i + 1 := w64 (by omega) (by omega)
  unfold ja yhe Zo Jb
  obtain ⟨⟨x1, x2, x3, x4, x5⟩, hx⟩ : ∃ x, y6 s j = x := ⟨_, rfl⟩
  have hx' : s.getD j.toNat yH = (x1, x2, x3, x4, x5) := hx
  have e1 : q.getD i.toNat 0 = zt q i := rfl
  have e2 : q.getD (i + 1).toNat 0 = zt q (i + 1) := rfl
  rw [hx', e1, e2]
  have hi1 : 0 ≤ i + 1 := by omega
  simp only [Bool.cond_eq_ite, decide_eq_true_eq, h0, h1, hi0, hi, hi1, if_true, hw, hwi, hx, Option.bind_some]
  by_cases h2 : Go.IntKind.wrap .i64 (Go.IntKind.wrap .i64 ((64 : Int) * x1) + x2) < zt q i
  ·simp [h2]
  ·by_cases h3 : i + 1 < (q.length : Int)
   ·simp [h2, h3]
   ·simp [h2, h3]
 ·intro again j hj
  unfold ja
  simp only [Bool.cond_eq_ite, decide_eq_true_eq, if_neg hj]
theorem y3W (q : List Int) (t : List y0) (i : Int) (ht : TOk t) (hi0 : 0 ≤ i) (hi : i < (t.length : Int)) (hq : q.length = t.length) : JH (q, t, i) = some (!Yq (yaZ q i) (ye t i) 0) := by
 have hmem : ye t i ∈ t := yW yf t i hi0 hi
 obtain ⟨hn, hs⟩ := ht.node hmem
 have hlen := ht.len
 have hq1 : i < (q.length : Int) := by omega
 have hq2 : q.length ≤ 1048576 := by omega
 unfold JH qB
 simp only [hi0, hi, if_true]
 generalize ye t i = n at *
 refine (zQ (step := jb _ _) (fun k => (i, n, (n.length : Int), k, q, t)) (yaZ q i) (some false) (some true) yY n (by omega) ?_ ?_).trans ?_
 ·intro again k h0 h1
  have hw : Go.IntKind.wrap .i64 (k + 1) = k + 1 := w64 (by omega) (by omega)
  have hsk : List.length (yn n k) ≤ 1048576 := hs _ (yW yY n k h0 h1)
  unfold jb yaZ
  have hx : n.getD k.toNat yY = yn n k := rfl
  rw [hx]
  simp only [Bool.cond_eq_ite, decide_eq_true_eq, h0, h1, if_true, yeq _ _ i k (n.length : Int) q t n _ hi0 hq1 hq2 hsk, hw]
 ·intro again k hk
  unfold jb
  simp only [Bool.cond_eq_ite, decide_eq_true_eq, if_neg hk]
 ·cases Yq (yaZ q i) n 0 <;> rfl
def yer (q : List Int) (i : Int) : Bool := decide (0 < i) && decide (q.getD (i - 1).toNat 0 ≥ q.getD i.toNat 0)
def v8 (q : List Int) (i : Int) (n : y0) : Bool := yer q i || !y2n q i n
def y57 (s : Int) (n : y0) : Int := Go.IntKind.wrap .i64 (s + ((yz n).length : Int))
def z6 (q : List Int) (t : List y0) : Bool :=
 inR (t.length : Int) 1 20 && (decide (q.length = t.length) && ((q.getD 0 0 == 0) && (!Yq (v8 q) t 0 && decide (((yc t).length : Int) ≤ 60))))
theorem ygn : ∀ (t : List y0) (s : List y7), (s.length : Int) + kt Qz t ≤ 1048576 → t.foldl y57 (s.length : Int) = ((t.foldl ku s).length : Int)
 | [], _, _ => rfl
 | n :: t, s, h => by
  rw [Yj] at h
  have h1 := KK n
  have h2 := y2j n
  have h3 := W6 KJ t
  have h4 : (ku s n).length = s.length + (yz n).length := List.length_append
  rw [List.foldl_cons, List.foldl_cons, show y57 (s.length : Int) n = ((ku s n).length : Int) by
   unfold y57
   rw [h4, w64 (by omega) (by omega)]
   omega]
  exact ygn t (ku s n) (by rw [h4]; omega)
theorem VY (q : List Int) (t : List y0) (ht : TOk t) : Yt (q, t) = some (z6 q t) := by
 have hlen := ht.len
 unfold Yt z6
 simp only [ZG, Option.bind_some]
 cases h1 : inR (t.length : Int) 1 20
 ·rfl
 by_cases hq : q.length = t.length
 ·have hq' : ((q.length : Int) != (t.length : Int)) = false := by simp [hq]
  have hpos : 0 < (q.length : Int) := by
   have := (zv.1 h1).1
   omega
  have hd : decide (q.length = t.length) = true := by simp [hq]
  simp only [hq', hd, Bool.not_true, cond_false, cond_true, Option.bind_some, Bool.true_and]
  rw [if_pos (Int.le_refl _), if_pos (by omega)]
  have e0 : zt q 0 = q.getD 0 0 := rfl
  rw [e0]
  try simp only [Option.bind_some]
  by_cases hz : q.getD 0 0 = 0
  ·have hz1 : (q.getD 0 0 != 0) = false := by rw [hz]; rfl
   have hz2 : (q.getD 0 0 == 0) = true := by rw [hz]; rfl
   rw [hz1, hz2]
   simp only [cond_false, Bool.true_and]
   unfold QQ
   refine (zQ (step := Jk _ _) (fun i => (i, q, t)) (v8 q) (some false) (some (decide (((yc t).length : Int) ≤ 60))) yf t (by omega) ?_ ?_).trans ?_
   ·intro again i h0 h1
    have hw : Go.IntKind.wrap .i64 (i + 1) = i + 1 := w64 (by omega) (by omega)
    have hm : Go.IntKind.wrap .i64 (i - 1) = i - 1 := w64 (by omega) (by omega)
    have e := y5Y q t i ht h0 h1 hq
    unfold Jk v8 yer
    have hx : t.getD i.toNat yf = ye t i := rfl
    have e1 : q.getD i.toNat 0 = zt q i := rfl
    have e2 : q.getD (i - 1).toNat 0 = zt q (i - 1) := rfl
    rw [hx, e1, e2]
    simp only [Bool.cond_eq_ite, decide_eq_true_eq, h0, h1, if_true, hw, hm, e, gt_iff_lt]
    by_cases h5 : 0 < i
    ·rw [if_pos h5, if_pos (by omega), if_pos (by omega), if_pos (by omega)]
     simp only [h5, decide_true, Option.bind_some, Bool.true_and]
     cases decide (zt q (i - 1) ≥ zt q i) <;> cases y2n q i (ye t i) <;> rfl
    ·rw [if_neg h5]
     simp only [h5, decide_false, Option.bind_some, Bool.false_and]
     cases y2n q i (ye t i) <;> rfl
   ·intro again i hi
    have e : yP (q, t) = some (yc t) := YG q t (by omega) ht.nodes ht.sum
    unfold Jk
    simp only [Bool.cond_eq_ite, decide_eq_true_eq, if_neg hi, e, Option.bind_some]
   ·cases Yq (v8 q) t 0 <;> rfl
  ·have hz1 : (q.getD 0 0 != 0) = true := by simpa using hz
   have hz2 : (q.getD 0 0 == 0) = false := by simpa using hz
   rw [hz1, hz2]
   rfl
 ·have hq' : ((q.length : Int) != (t.length : Int)) = true := by
   simp only [bne_iff_ne, ne_eq]
   omega
  have hd : decide (q.length = t.length) = false := by simp [hq]
  simp only [hq', hd, Bool.not_true, cond_false, cond_true, Option.bind_some, Bool.false_and, Bool.and_false]
theorem VZ (q : List Int) (t : List y0) (ht : TOk t) : Yu (q, t) = some (z6 q t) := by
 have hlen := ht.len
 unfold Yu z6
 simp only [jh, Option.bind_some]
 cases h1 : inR (t.length : Int) 1 20
 ·rfl
 by_cases hq : q.length = t.length
 ·have hq' : ((q.length : Int) != (t.length : Int)) = false := by simp [hq]
  have hpos : 0 < (q.length : Int) := by
   have := (zv.1 h1).1
   omega
  have hd : decide (q.length = t.length) = true := by simp [hq]
  simp only [hq', hd, Bool.not_true, cond_false, cond_true, Option.bind_some, Bool.true_and]
  rw [if_pos (Int.le_refl _), if_pos (by omega)]
  have e0 : zt q 0 = q.getD 0 0 := rfl
  rw [e0]
  try simp only [Option.bind_some]
  by_cases hz : q.getD 0 0 = 0
  ·have hz1 : (q.getD 0 0 != 0) = false := by rw [hz]; rfl
   have hz2 : (q.getD 0 0 == 0) = true := by rw [hz]; rfl
   rw [hz1, hz2]
   simp only [cond_false, Bool.true_and]
   unfold y0b
   refine (y4l (step := JI _ _) (fun (i s : Int) => (s, t, (t.length : Int), i, q, t)) (v8 q) y57 (some false) (fun s => some (decide (s ≤ 60))) yf t (by omega) ?_ ?_ 0).trans ?_
   ·intro again i s h0 h1
    have hmem : ye t i ∈ t := yW yf t i h0 h1
    obtain ⟨hn, hss⟩ := ht.node hmem
    have hw : Go.IntKind.wrap .i64 (i + 1) = i + 1 := w64 (by omega) (by omega)
    have hm : Go.IntKind.wrap .i64 (i - 1) = i - 1 := w64 (by omega) (by omega)
    have e3 := VX (ye t i) (by omega) (fun s hh => by have := hss s hh; omega)
    have e4 := y3W q t i ht h0 h1 hq
    have e5 : yR (ye t i) = some (yz (ye t i)) := jT _ (by omega) (ht.sumK hmem)
    unfold JI v8 yer y2n y6L y57
    have hx : t.getD i.toNat yf = ye t i := rfl
    have e1 : q.getD i.toNat 0 = zt q i := rfl
    have e2 : q.getD (i - 1).toNat 0 = zt q (i - 1) := rfl
    rw [hx, e1, e2]
    simp only [Bool.cond_eq_ite, decide_eq_true_eq, h0, h1, if_true, hw, hm, e3, e4, e5, gt_iff_lt, Option.bind_some]
    by_cases h5 : 0 < i
    ·rw [if_pos h5, if_pos (by omega), if_pos (by omega), if_pos (by omega)]
     simp only [h5, decide_true, Option.bind_some, Bool.true_and, if_true]
     cases decide (zt q (i - 1) ≥ zt q i) <;> cases YA (ye t i) <;> cases Yq (yaZ q i) (ye t i) 0 <;> cases (((yz (ye t i)).length : Int) == 0) <;> rfl
    ·rw [if_neg h5]
     simp only [h5, decide_false, Option.bind_some, Bool.false_and, if_false]
     cases YA (ye t i) <;> cases Yq (yaZ q i) (ye t i) 0 <;> rfl
   ·intro again i s hi
    unfold JI
    simp only [Bool.cond_eq_ite, decide_eq_true_eq, if_neg hi]
   ·have := ygn t [] (by have := ht.sum; simpa using this)
    simp only [List.length_nil] at this
    rw [show ((0 : Nat) : Int) = 0 from rfl] at this
    rw [this]
    unfold yc
    cases Yq (v8 q) t 0 <;> rfl
  ·have hz1 : (q.getD 0 0 != 0) = true := by simpa using hz
   have hz2 : (q.getD 0 0 == 0) = false := by simpa using hz
   rw [hz1, hz2]
   rfl
 ·have hq' : ((q.length : Int) != (t.length : Int)) = true := by
   simp only [bne_iff_ne, ne_eq]
   omega
  have hd : decide (q.length = t.length) = false := by simp [hq]
  simp only [hq', hd, Bool.not_true, cond_false, cond_true, Option.bind_some, Bool.false_and, Bool.and_false]
end Go.Proofs.YtjllpipmaejeoaaGreat.Pl
namespace Go.Proofs.YtjllpipmaejeoaaGreat.Pl
open Go.Proofs.YtjllpipmaejeoaaGreat.R Go.Proofs.YtjllpipmaejeoaaGreat.XV
def isW (n : Int) : Bool := inR n 0 65535
theorem qG (x : Int) : zy x = some (isW x) := by unfold zy; rw [ZG]; rfl
theorem ygo (x : Int) : kg x = some (isW x) := by unfold kg; rw [jh]; rfl
def y8N (c : Int) : Bool := inR c 97 122 || inR c 48 57
def qZ (l : List UInt8) : Bool := l.all fun c => y8N (c.toNat : Int)
def jV (s : ByteArray) : Bool := qZ s.data.toList && inR s.size 1 6
theorem ydc (c : UInt8) : Go.IntKind.wrap .i64 (c.toNat : Int) = c.toNat := by
 have := c.toNat_lt
 exact w64 (by omega) (by omega)
theorem yir (s : ByteArray) (i : Nat) (h : i < s.size) : ByteArray.get s i h = s.data.toList[i]'(by rw [Array.length_toList]; exact h) := by
 rw [Array.getElem_toList]
 rfl
theorem yab (s : ByteArray) (i : Nat) (h : i < s.size) : s.data.toList.drop i = ByteArray.get s i h :: s.data.toList.drop (i + 1) := by
 rw [yir, ← List.drop_eq_getElem_cons]
theorem wR (s : ByteArray) (hs : s.size ≤ maxLen) : Ys s = some (jV s) := by
 have hm : (s.size : Int) ≤ 9223372036854775807 := by simp only [maxLen] at hs; omega
 unfold Ys QO
 rw [Zv (fun t : ByteArray × Int => t.1.size - t.2.toNat) (fun t => t.1 = s ∧ 0 ≤ t.2 ∧ t.2 ≤ s.size) (fun t => if qZ (t.1.data.toList.drop t.2.toNat) then some (inR s.size 1 6) else some false) ?_ (s, 0) ⟨rfl, by simp, by simp⟩ (by simp only [maxLen] at hs; simp; omega)]
 ·unfold jV
  cases h : qZ s.data.toList <;> simp [h]
 ·rintro again ⟨s', i⟩ ⟨rfl, h0, h1⟩ hag
  simp only at h0 h1 hs hm ⊢
  unfold vE
  simp only [Bool.cond_eq_ite, decide_eq_true_eq]
  by_cases hi : i < (s'.size : Int)
  ·have hn : i.toNat < s'.size := by omega
   rw [if_pos hi, if_pos h0, dif_pos hn]
   simp only [ZG, Option.bind_some, if_pos h0, dif_pos hn, ydc]
   rw [yab s' i.toNat hn]
   have hw : Go.IntKind.wrap .i64 (i + 1) = i + 1 := w64 (by omega) (by omega)
   have e1 : (i + 1).toNat = i.toNat + 1 := by omega
   have hag' := hag (s', i + 1) ⟨rfl, by simp only; omega, by simp only; omega⟩ (by simp only; omega)
   simp only [qZ, List.all_cons, y8N] at hag' ⊢
   rw [hw, hag', e1]
   obtain ⟨c, hc⟩ : ∃ c, ByteArray.get s' i.toNat hn = c := ⟨_, rfl⟩
   simp only [hc]
   cases inR (c.toNat : Int) 97 122 <;> cases inR (c.toNat : Int) 48 57 <;> simp
  ·rw [if_neg hi, List.drop_of_length_le (by rw [Array.length_toList]; show s'.size ≤ _; omega)]
   simp [qZ, ZG]
theorem y5Z (s : ByteArray) (hs : s.size ≤ maxLen) : kh s = some (jV s) := by
 have hm : (s.size : Int) ≤ 9223372036854775807 := by simp only [maxLen] at hs; omega
 unfold kh y0e
 rw [Zv (fun t : ByteArray × Int => t.1.size - t.2.toNat) (fun t => t.1 = s ∧ 0 ≤ t.2 ∧ t.2 ≤ s.size) (fun t => if qZ (t.1.data.toList.drop t.2.toNat) then some (inR s.size 1 6) else some false) ?_ (s, 0) ⟨rfl, by simp, by simp⟩ (by simp only [maxLen] at hs; simp; omega)]
 ·unfold jV
  cases h : qZ s.data.toList <;> simp [h]
 ·rintro again ⟨s', i⟩ ⟨rfl, h0, h1⟩ hag
  simp only at h0 h1 hs hm ⊢
  unfold Vc
  simp only [Bool.cond_eq_ite, decide_eq_true_eq]
  by_cases hi : i < (s'.size : Int)
  ·have hn : i.toNat < s'.size := by omega
   rw [if_pos hi, if_pos h0, dif_pos hn]
   simp only [jh, Option.bind_some, if_pos h0, dif_pos hn, ydc]
   rw [yab s' i.toNat hn]
   have hw : Go.IntKind.wrap .i64 (i + 1) = i + 1 := w64 (by omega) (by omega)
   have e1 : (i + 1).toNat = i.toNat + 1 := by omega
   have hag' := hag (s', i + 1) ⟨rfl, by simp only; omega, by simp only; omega⟩ (by simp only; omega)
   simp only [qZ, List.all_cons, y8N] at hag' ⊢
   rw [hw, hag', e1]
   obtain ⟨c, hc⟩ : ∃ c, ByteArray.get s' i.toNat hn = c := ⟨_, rfl⟩
   simp only [hc]
   cases inR (c.toNat : Int) 97 122 <;> cases inR (c.toNat : Int) 48 57 <;> simp
  ·rw [if_neg hi, List.drop_of_length_le (by rw [Array.length_toList]; show s'.size ≤ _; omega)]
   simp [qZ, jh]
end Go.Proofs.YtjllpipmaejeoaaGreat.Pl
namespace Go.Proofs.YtjllpipmaejeoaaGreat.Pl
open Go.Proofs.YtjllpipmaejeoaaGreat.R Go.Proofs.YtjllpipmaejeoaaGreat.XV
def ycc (l : List y9) (i : Int) : List y9 := List.drop (Int.toNat (0 : Int)) (List.take (Int.toNat i) l)
def y31 (l : List y9) (i : Int) (a : y9) : Bool := !inR a.1 1 60 || ((decide (0 < i) && decide ((l.getD (i - 1).toNat yx).1 ≥ a.1)) || (a.2 != 0 && decide (yS (ycc l i) a.2 < 0)))
def YO (l : List y9) : Bool := !Yq (y31 l) l 0 && decide ((l.length : Int) ≤ 16)
theorem ydd (l : List y9) (i : Int) : (ycc l i).length ≤ l.length := by
 unfold ycc
 simp only [List.length_drop, List.length_take]
 omega
theorem Kw (l : List y9) (hl : l.length ≤ 1048576) : Zd l = some (YO l) := by
 unfold Zd QR YO
 refine (zQ (step := Jl _ _) (fun i => (l, i)) (y31 l) (some false) (some (decide ((l.length : Int) ≤ 16))) yx l (by omega) ?_ ?_).trans ?_
 ·intro again i h0 h1
  have hw : Go.IntKind.wrap .i64 (i + 1) = i + 1 := w64 (by omega) (by omega)
  have hm : Go.IntKind.wrap .i64 (i - 1) = i - 1 := w64 (by omega) (by omega)
  unfold Jl y31
  obtain ⟨⟨x1, x2⟩, hx⟩ : ∃ x, yG l i = x := ⟨_, rfl⟩
  have hx' : l.getD i.toNat yx = (x1, x2) := hx
  have hy : l.getD (i - 1).toNat yx = yG l (i - 1) := rfl
  have e : zU (List.drop (Int.toNat (0 : Int)) (List.take (Int.toNat i) l), x2) = some (yS (ycc l i) x2) := Zw (ycc l i) x2 (by have := ydd l i; omega)
  rw [hx', hy]
  have h2 : i ≤ (l.length : Int) := by omega
  simp only [Bool.cond_eq_ite, decide_eq_true_eq, h0, h1, h2, if_true, hw, hm, hx, ZG, e, Option.bind_some, Int.le_refl, gt_iff_lt]
  cases inR x1 1 60
  ·rfl
  ·by_cases h5 : 0 < i
   ·have h3 : 0 ≤ i - 1 := by omega
    have h4 : i - 1 < (l.length : Int) := by omega
    simp only [h5, h3, h4, if_true, decide_true]
    cases decide ((yG l (i - 1)).1 ≥ x1) <;> cases (x2 != 0) <;> cases decide (yS (ycc l i) x2 < 0) <;> rfl
   ·simp only [h5, if_false, decide_false]
    cases (x2 != 0) <;> cases decide (yS (ycc l i) x2 < 0) <;> rfl
 ·intro again i hi
  unfold Jl
  simp only [Bool.cond_eq_ite, decide_eq_true_eq, if_neg hi]
 ·cases Yq (y31 l) l 0 <;> rfl
theorem y1q (l : List y9) (hl : l.length ≤ 1048576) : wh l = some (YO l) := by
 unfold wh y0c YO
 refine (zQ (step := JJ _ _) (fun i => (l, l, (l.length : Int), i)) (y31 l) (some false) (some (decide ((l.length : Int) ≤ 16))) yx l (by omega) ?_ ?_).trans ?_
 ·intro again i h0 h1
  have hw : Go.IntKind.wrap .i64 (i + 1) = i + 1 := w64 (by omega) (by omega)
  have hm : Go.IntKind.wrap .i64 (i - 1) = i - 1 := w64 (by omega) (by omega)
  unfold JJ y31
  obtain ⟨⟨x1, x2⟩, hx⟩ : ∃ x, yG l i = x := ⟨_, rfl⟩
  have hx' : l.getD i.toNat yx = (x1, x2) := hx
  have hy : l.getD (i - 1).toNat yx = yG l (i - 1) := rfl
  have e : YU (List.drop (Int.toNat (0 : Int)) (List.take (Int.toNat i) l), x2) = some (yS (ycc l i) x2) := kv (ycc l i) x2 (by have := ydd l i; omega)
  rw [hx', hy]
  have h2 : i ≤ (l.length : Int) := by omega
  simp only [Bool.cond_eq_ite, decide_eq_true_eq, h0, h1, h2, if_true, hw, hm, hx, jh, e, Option.bind_some, Int.le_refl, gt_iff_lt]
  cases inR x1 1 60
  ·rfl
  ·by_cases h5 : 0 < i
   ·have h3 : 0 ≤ i - 1 := by omega
    have h4 : i - 1 < (l.length : Int) := by omega
    simp only [h5, h3, h4, if_true, decide_true]
    cases decide ((yG l (i - 1)).1 ≥ x1) <;> cases (x2 != 0) <;> cases decide (yS (ycc l i) x2 < 0) <;> rfl
   ·simp only [h5, if_false, decide_false]
    cases (x2 != 0) <;> cases decide (yS (ycc l i) x2 < 0) <;> rfl
 ·intro again i hi
  unfold JJ
  simp only [Bool.cond_eq_ite, decide_eq_true_eq, if_neg hi]
 ·cases Yq (y31 l) l 0 <;> rfl
def qH (id : Int) (s : List Int) (a : y9) : List Int := if (a.2 == id && id != 0) = true then s ++ [a.1] else s
def zg (l : List y9) (id : Int) : List Int := l.foldl (qH id) []
theorem y6M (id : Int) (s : List Int) (a : y9) : (qH id s a).length ≤ s.length + 1 := by
 unfold qH
 split <;> simp
theorem Kx (l : List y9) (id : Int) (hl : l.length ≤ 1048576) : jr (l, id) = some (zg l id) := by
 unfold jr QS zg
 refine Ye (step := Jm _) (fun (i : Int) (s : List Int) => (l, id, i, s)) (fun s => some s) yx (qH id) l (by omega) (fun i s => s.length ≤ i) ?_ ?_ [] (by simp)
 ·intro again i s h0 h1 hI
  have hw : Go.IntKind.wrap .i64 (i + 1) = i + 1 := w64 (by omega) (by omega)
  have hs := y6M id s (l.getD i.toNat yx)
  refine ⟨?_, by omega⟩
  have c1 : (s.length + 1) * 8 < 140737488355328 := by omega
  clear hs
  unfold Jm qH
  obtain ⟨⟨x1, x2⟩, hx⟩ : ∃ x, yG l i = x := ⟨_, rfl⟩
  have hx' : l.getD i.toNat yx = (x1, x2) := hx
  rw [hx']
  simp only [Bool.cond_eq_ite, decide_eq_true_eq, h0, h1, if_true, hw, hx, List.length_cons, List.length_nil, Nat.zero_add, c1]
  cases (x2 == id) <;> cases (id != 0) <;> rfl
 ·intro again i s hi
  unfold Jm
  simp only [Bool.cond_eq_ite, decide_eq_true_eq, if_neg hi]
theorem ygp (l : List y9) : zg l 0 = [] := by
 have : ∀ (l : List y9) (s : List Int), l.foldl (qH 0) s = s := by
  intro l
  induction l with
  | nil => intro s; rfl
  | cons a l ih =>
   intro s
   rw [List.foldl_cons, ih]
   unfold qH
   simp
 exact this l []
theorem Ky (l : List y9) (id : Int) (hl : l.length ≤ 1048576) : Zp (l, id) = some (zg l id) := by
 unfold Zp
 by_cases hid : id = 0
 ·subst hid
  rw [ygp]
  rfl
 ·have hid1 : (id == 0) = false := by simpa using hid
  have hid2 : (id != 0) = true := by simpa using hid
  simp only [hid1, cond_false]
  unfold y0d zg
  refine Ye (step := JK _) (fun (i : Int) (s : List Int) => (id, l, (l.length : Int), i, s)) (fun s => some s) yx (qH id) l (by omega) (fun i s => s.length ≤ i) ?_ ?_ [] (by simp)
  ·intro again i s h0 h1 hI
   have hw : Go.IntKind.wrap .i64 (i + 1) = i + 1 := w64 (by omega) (by omega)
   have hs := y6M id s (l.getD i.toNat yx)
   refine ⟨?_, by omega⟩
   have c1 : (s.length + 1) * 8 < 140737488355328 := by omega
   clear hs
   unfold JK qH
   obtain ⟨⟨x1, x2⟩, hx⟩ : ∃ x, yG l i = x := ⟨_, rfl⟩
   have hx' : l.getD i.toNat yx = (x1, x2) := hx
   rw [hx']
   simp only [Bool.cond_eq_ite, decide_eq_true_eq, h0, h1, if_true, hw, hx, List.length_cons, List.length_nil, Nat.zero_add, c1, hid2]
   cases (x2 == id) <;> rfl
  ·intro again i s hi
   unfold JK
   simp only [Bool.cond_eq_ite, decide_eq_true_eq, if_neg hi]
def y60 (_ : Int) (a : y8) : Bool := !inR a.1 0 999 || (!isW a.2.2 || (!a.2.1 && a.2.2 != 0))
def zc (l : List y8) : Bool := !Yq y60 l 0 && ((l.length : Int) == 24)
theorem JP (l : List y8) (hl : l.length ≤ 1048576) : ZB l = some (zc l) := by
 unfold ZB Qm zc
 refine (zQ (step := jE _ _) (fun i => (l, i)) y60 (some false) (some ((l.length : Int) == 24)) yQ l (by omega) ?_ ?_).trans ?_
 ·intro again i h0 h1
  have hw : Go.IntKind.wrap .i64 (i + 1) = i + 1 := w64 (by omega) (by omega)
  unfold jE y60
  obtain ⟨⟨x1, x2, x3⟩, hx⟩ : ∃ x, yA l i = x := ⟨_, rfl⟩
  have hx' : l.getD i.toNat yQ = (x1, x2, x3) := hx
  rw [hx']
  simp only [Bool.cond_eq_ite, decide_eq_true_eq, h0, h1, if_true, hw, hx, ZG, qG, Option.bind_some]
  cases inR x1 0 999 <;> cases isW x3 <;> cases x2 <;> cases (x3 != 0) <;> rfl
 ·intro again i hi
  unfold jE
  simp only [Bool.cond_eq_ite, decide_eq_true_eq, if_neg hi]
 ·cases Yq y60 l 0 <;> rfl
theorem y0o (l : List y8) (hl : l.length ≤ 1048576) : J3 l = some (zc l) := by
 unfold J3 Qr zc
 refine (zQ (step := jN _ _) (fun i => (l, l, (l.length : Int), i)) y60 (some false) (some ((l.length : Int) == 24)) yQ l (by omega) ?_ ?_).trans ?_
 ·intro again i h0 h1
  have hw : Go.IntKind.wrap .i64 (i + 1) = i + 1 := w64 (by omega) (by omega)
  unfold jN y60
  obtain ⟨⟨x1, x2, x3⟩, hx⟩ : ∃ x, yA l i = x := ⟨_, rfl⟩
  have hx' : l.getD i.toNat yQ = (x1, x2, x3) := hx
  rw [hx']
  simp only [Bool.cond_eq_ite, decide_eq_true_eq, h0, h1, if_true, hw, hx, jh, ygo, Option.bind_some]
  cases inR x1 0 999 <;> cases isW x3 <;> cases x2 <;> cases (x3 != 0) <;> rfl
 ·intro again i hi
  unfold jN
  simp only [Bool.cond_eq_ite, decide_eq_true_eq, if_neg hi]
 ·cases Yq y60 l 0 <;> rfl
def Q0 (s : Int) (a : y8) : Int := if a.2.1 = true then Go.IntKind.wrap .i64 (s + 1) else s
def QA (l : List y8) : Int := l.foldl Q0 0
theorem yac (l : List y8) (hl : l.length ≤ 1048576) : jH l = some (QA l) := by
 unfold jH VB QA
 refine Ye (step := Ze _) (fun (i s : Int) => (l, s, i)) (fun s => some s) yQ Q0 l (by omega) (fun _ _ => True) ?_ ?_ 0 trivial
 ·intro again i s h0 h1 _
  have hw : Go.IntKind.wrap .i64 (i + 1) = i + 1 := w64 (by omega) (by omega)
  refine ⟨?_, trivial⟩
  unfold Ze Q0
  obtain ⟨⟨x1, x2, x3⟩, hx⟩ : ∃ x, yA l i = x := ⟨_, rfl⟩
  have hx' : l.getD i.toNat yQ = (x1, x2, x3) := hx
  rw [hx']
  simp only [Bool.cond_eq_ite, decide_eq_true_eq, h0, h1, if_true, hw, hx]
  cases x2 <;> rfl
 ·intro again i s hi
  unfold Ze
  simp only [Bool.cond_eq_ite, decide_eq_true_eq, if_neg hi]
theorem y0p (l : List y8) (hl : l.length ≤ 1048576) : yy l = some (QA l) := by
 unfold yy VH QA
 refine Ye (step := Zn _) (fun (i s : Int) => (s, l, (l.length : Int), i)) (fun s => some s) yQ Q0 l (by omega) (fun _ _ => True) ?_ ?_ 0 trivial
 ·intro again i s h0 h1 _
  have hw : Go.IntKind.wrap .i64 (i + 1) = i + 1 := w64 (by omega) (by omega)
  refine ⟨?_, trivial⟩
  unfold Zn Q0
  obtain ⟨⟨x1, x2, x3⟩, hx⟩ : ∃ x, yA l i = x := ⟨_, rfl⟩
  have hx' : l.getD i.toNat yQ = (x1, x2, x3) := hx
  rw [hx']
  simp only [Bool.cond_eq_ite, decide_eq_true_eq, h0, h1, if_true, hw, hx]
  cases x2 <;> rfl
 ·intro again i s hi
  unfold Zn
  simp only [Bool.cond_eq_ite, decide_eq_true_eq, if_neg hi]
def Z5 (l : List y8) (i gen : Int) : Int × Bool :=
 if inR i 0 ((l.length : Int) - 1) && ((l.getD i.toNat yQ).2.1 && ((l.getD i.toNat yQ).1 == gen)) then ((l.getD i.toNat yQ).2.2, true) else (0, false)
theorem y1r (l : List y8) (i gen : Int) (hl : l.length ≤ 1048576) : JZ (l, i, gen) = some (Z5 l i gen) := by
 unfold JZ Z5
 have hm : Go.IntKind.wrap .i64 ((l.length : Int) - 1) = (l.length : Int) - 1 := w64 (by omega) (by omega)
 obtain ⟨⟨x1, x2, x3⟩, hx⟩ : ∃ x, yA l i = x := ⟨_, rfl⟩
 have hx' : l.getD i.toNat yQ = (x1, x2, x3) := hx
 rw [hx']
 simp only [hm, hx, ZG, Option.bind_some]
 by_cases hr : inR i 0 ((l.length : Int) - 1) = true
 ·obtain ⟨h0, h1⟩ := zv.1 hr
  rw [hr, if_pos h0, if_pos (by omega), if_pos h0, if_pos (by omega), if_pos h0, if_pos (by omega)]
  by_cases hg : x1 = gen
  ·have g1 : (x1 != gen) = false := by simp [hg]
   have g2 : (x1 == gen) = true := by simp [hg]
   rw [g1, g2]
   cases x2 <;> rfl
  ·have g1 : (x1 != gen) = true := by simpa using hg
   have g2 : (x1 == gen) = false := by simpa using hg
   rw [g1, g2]
   cases x2 <;> rfl
 ·have : inR i 0 ((l.length : Int) - 1) = false := by simpa using hr
  rw [this]
  rfl
theorem y1s (l : List y8) (i gen : Int) (hl : l.length ≤ 1048576) : wg (l, i, gen) = some (Z5 l i gen) := by
 rw [← y1r l i gen hl]
 unfold wg JZ
 simp only [jh, ZG]
end Go.Proofs.YtjllpipmaejeoaaGreat.Pl
namespace Go.Proofs.YtjllpipmaejeoaaGreat.Pl
open Go.Proofs.YtjllpipmaejeoaaGreat.R Go.Proofs.YtjllpipmaejeoaaGreat.XV
theorem y8O {A : Type} (p : A → Bool) : ∀ (l : List A) (i j : Int), 0 ≤ i → decide (0 ≤ zE p l i) = Yq (fun _ a => p a) l j
 | [], i, j, _ => rfl
 | a :: l, i, j, h => by
  rw [zE, Yq, ← y8O p l (i + 1) (j + 1) (by omega)]
  cases p a with
  | true => simp [h]
  | false => rfl
theorem yad {A : Type} (da : A) (l : List A) (i j : Int) (h0 : 0 ≤ j) (h : j < i) : (l.take i.toNat).getD j.toNat da = l.getD j.toNat da := by
 rw [List.getD_eq_getElem?_getD, List.getD_eq_getElem?_getD, List.getElem?_take, if_pos (by omega)]
theorem yde {A : Type} (l : List A) (i : Int) (h0 : 0 ≤ i) (h : i ≤ (l.length : Int)) : ((l.take i.toNat).length : Int) = i := by
 rw [List.length_take]
 omega
def JQ (age : Int) (_ : Int) (u : yh) : Bool := u.2.1 == age
def yes (vs : List yh) (l : List y9) (i : Int) (v : yh) : Bool :=
 !jV v.1 || (!inR v.2.2.1 1 12 || (decide (yS l v.2.1 < 0) || (decide (((zg l v.2.1).length : Int) > 0) || ((decide (0 < i) && !Go.Op.bytesLess (ByteArray.toList (vs.getD (i - 1).toNat Y2).1) (ByteArray.toList v.1)) || Yq (JQ v.2.1) (vs.take i.toNat) 0))))
def ji (vs : List yh) (l : List y9) : Bool := !Yq (yes vs l) vs 0 && decide ((vs.length : Int) ≤ 6)
theorem y58 {R : Type} (k0 : (Bool × Int × List yb × List y0 × List y9 × List y8 × List yh × Int) → Option R) (k1 : (Int × List yb × List y0 × List y9 × List y8 × List yh × Int) → Option R) (i : Int) (q : List Int) (t : List y0) (l : List y9) (cs : List y8) (vs : List yh) (z : Int) (v1 : ByteArray) (v2 v3 : Int) (v4 : Bool) (h0 : 0 ≤ i) (h1 : i ≤ (vs.length : Int)) (hv : vs.length ≤ 1048576) :
  KX k0 k1 (i, 0, q, t, l, cs, vs, z, v1, v2, v3, v4) = if Yq (JQ v2) (vs.take i.toNat) 0 = true then k0 (false, i, q, t, l, cs, vs, z) else k1 (i, q, t, l, cs, vs, z) := by
 unfold KX
 have hlen := yde vs i h0 h1
 refine zQ (step := jF k0 k1) (fun k => (i, k, q, t, l, cs, vs, z, v1, v2, v3, v4)) (JQ v2) _ _ Y2 (vs.take i.toNat) (by omega) ?_ ?_
 ·intro again k hk0 hk1
  rw [hlen] at hk1
  have hw : Go.IntKind.wrap .i64 (k + 1) = k + 1 := w64 (by omega) (by omega)
  have hk2 : k < (vs.length : Int) := by omega
  unfold jF JQ
  rw [yad Y2 vs i k hk0 hk1]
  have hx : vs.getD k.toNat Y2 = yi vs k := rfl
  rw [hx]
  simp only [Bool.cond_eq_ite, decide_eq_true_eq, hk0, hk1, hk2, if_true, hw]
 ·intro again k hk
  rw [hlen] at hk
  unfold jF
  simp only [Bool.cond_eq_ite, decide_eq_true_eq, if_neg hk]
theorem yae (q : List Int) (t : List y0) (l : List y9) (cs : List y8) (vs : List yh) (z : Int) (hl : l.length ≤ 1048576) (hv : vs.length ≤ 1048576) (hvn : ∀ v ∈ vs, ByteArray.size v.1 ≤ maxLen) : wB (q, t, l, cs, vs, z) = some (ji vs l) := by
 unfold wB Qn ji
 refine (zQ (step := jG _ _) (fun i => (i, q, t, l, cs, vs, z)) (yes vs l) (some false) (some (decide ((vs.length : Int) ≤ 6))) Y2 vs (by omega) ?_ ?_).trans ?_
 ·intro again i h0 h1
  have hw : Go.IntKind.wrap .i64 (i + 1) = i + 1 := w64 (by omega) (by omega)
  have hm : Go.IntKind.wrap .i64 (i - 1) = i - 1 := w64 (by omega) (by omega)
  have hmem := hvn _ (yW Y2 vs i h0 h1)
  unfold jG yes
  obtain ⟨⟨x1, x2, x3, x4⟩, hx⟩ : ∃ x, yi vs i = x := ⟨_, rfl⟩
  have hx' : vs.getD i.toNat Y2 = (x1, x2, x3, x4) := hx
  have hy : vs.getD (i - 1).toNat Y2 = yi vs (i - 1) := rfl
  rw [hx'] at hmem
  rw [hx', hy]
  have e1 := wR x1 hmem
  have e2 := Zw l x2 (by omega)
  have e3 := Kx l x2 hl
  simp only [Bool.cond_eq_ite, decide_eq_true_eq, h0, h1, if_true, hw, hm, hx, ZG, e1, e2, e3, y58 _ _ i q t l cs vs z x1 x2 x3 x4 h0 (by omega) hv, Option.bind_some, gt_iff_lt]
  cases jV x1
  ·rfl
  by_cases h5 : 0 < i
  ·have h3 : 0 ≤ i - 1 := by omega
   have h4 : i - 1 < (vs.length : Int) := by omega
   simp only [h5, h3, h4, if_true, decide_true]
   by_cases ha : yS l x2 < 0 <;> by_cases hk : (0 : Int) < ((zg l x2).length : Int) <;> simp only [ha, hk, if_true, if_false, decide_true, decide_false] <;> cases Go.Op.bytesLess (ByteArray.toList (yi vs (i - 1)).1) (ByteArray.toList x1) <;> cases inR x3 1 12 <;> cases Yq (JQ x2) (vs.take i.toNat) 0 <;> rfl
  ·simp only [h5, if_false, decide_false]
   by_cases ha : yS l x2 < 0 <;> by_cases hk : (0 : Int) < ((zg l x2).length : Int) <;> simp only [ha, hk, if_true, if_false, decide_true, decide_false] <;> cases inR x3 1 12 <;> cases Yq (JQ x2) (vs.take i.toNat) 0 <;> rfl
 ·intro again i hi
  unfold jG
  simp only [Bool.cond_eq_ite, decide_eq_true_eq, if_neg hi]
 ·cases Yq (yes vs l) vs 0 <;> rfl
theorem ycd (l : List yh) (v1 : ByteArray) (v2 v3 : Int) (v4 : Bool) (hl : l.length ≤ 1048576) : yI (l, v1, v2, v3, v4) = some (Yq (JQ v2) l 0, v1, v2, v3, v4) := by
 have key : z7 (l, v1, v2, v3, v4) = some (zE (fun u : yh => u.2.1 == v2) l 0, v1, v2, v3, v4) := by
  unfold z7 YB
  refine (Yz (step := yV _ _) (fun i => (l, (l.length : Int), i, v1, v2, v3, v4)) (fun u : yh => u.2.1 == v2) (fun x => some (x, v1, v2, v3, v4)) (some (-1, v1, v2, v3, v4)) Y2 l (by omega) ?_ ?_).trans ?_
  ·intro again i h0 h1
   have hw : Go.IntKind.wrap .i64 (i + 1) = i + 1 := w64 (by omega) (by omega)
   unfold yV ki
   simp only [Bool.cond_eq_ite, decide_eq_true_eq, h0, h1, if_true, hw, Option.bind_some]
   rfl
  ·intro again i hi
   unfold yV
   simp only [Bool.cond_eq_ite, decide_eq_true_eq, if_neg hi]
  ·rcases Yh (fun u : yh => u.2.1 == v2) Y2 l 0 (Int.le_refl _) with h | ⟨h1, h2, h3⟩
   ·rw [h]
    rfl
   ·rw [if_neg (by omega)]
 unfold yI
 rw [key]
 simp only [Option.bind_some, ge_iff_le]
 rw [y8O _ l 0 0 (Int.le_refl _)]
 rfl
theorem yaf (q : List Int) (t : List y0) (l : List y9) (cs : List y8) (vs : List yh) (z : Int) (hl : l.length ≤ 1048576) (hv : vs.length ≤ 1048576) (hvn : ∀ v ∈ vs, ByteArray.size v.1 ≤ maxLen) : kj (q, t, l, cs, vs, z) = some (ji vs l) := by
 unfold kj y0f ji
 refine (zQ (step := JL _ _) (fun i => (vs, (vs.length : Int), i, q, t, l, cs, vs, z)) (yes vs l) (some false) (some (decide ((vs.length : Int) ≤ 6))) Y2 vs (by omega) ?_ ?_).trans ?_
 ·intro again i h0 h1
  have hw : Go.IntKind.wrap .i64 (i + 1) = i + 1 := w64 (by omega) (by omega)
  have hm : Go.IntKind.wrap .i64 (i - 1) = i - 1 := w64 (by omega) (by omega)
  have hmem := hvn _ (yW Y2 vs i h0 h1)
  unfold JL yes
  obtain ⟨⟨x1, x2, x3, x4⟩, hx⟩ : ∃ x, yi vs i = x := ⟨_, rfl⟩
  have hx' : vs.getD i.toNat Y2 = (x1, x2, x3, x4) := hx
  have hy : vs.getD (i - 1).toNat Y2 = yi vs (i - 1) := rfl
  rw [hx'] at hmem
  rw [hx', hy]
  have e1 := y5Z x1 hmem
  have e2 := kv l x2 (by omega)
  have e3 := Ky l x2 hl
  have e4 : yI (List.drop (Int.toNat (0 : Int)) (List.take (Int.toNat i) vs), x1, x2, x3, x4) = some (Yq (JQ x2) (vs.take i.toNat) 0, x1, x2, x3, x4) := ycd (vs.take i.toNat) x1 x2 x3 x4 (by simp only [List.length_take]; omega)
  have h2 : i ≤ (vs.length : Int) := by omega
  simp only [Bool.cond_eq_ite, decide_eq_true_eq, h0, h1, h2, if_true, hw, hm, hx, jh, e1, e2, e3, e4, Option.bind_some, gt_iff_lt, Int.le_refl]
  cases jV x1
  ·rfl
  by_cases h5 : 0 < i
  ·have h3 : 0 ≤ i - 1 := by omega
   have h4 : i - 1 < (vs.length : Int) := by omega
   simp only [h5, h3, h4, if_true, decide_true]
   by_cases ha : yS l x2 < 0 <;> by_cases hk : (0 : Int) < ((zg l x2).length : Int) <;> simp only [ha, hk, if_true, if_false, decide_true, decide_false] <;> cases Go.Op.bytesLess (ByteArray.toList (yi vs (i - 1)).1) (ByteArray.toList x1) <;> cases inR x3 1 12 <;> cases Yq (JQ x2) (vs.take i.toNat) 0 <;> rfl
  ·simp only [h5, if_false, decide_false]
   by_cases ha : yS l x2 < 0 <;> by_cases hk : (0 : Int) < ((zg l x2).length : Int) <;> simp only [ha, hk, if_true, if_false, decide_true, decide_false] <;> cases inR x3 1 12 <;> cases Yq (JQ x2) (vs.take i.toNat) 0 <;> rfl
 ·intro again i hi
  unfold JL
  simp only [Bool.cond_eq_ite, decide_eq_true_eq, if_neg hi]
 ·cases Yq (yes vs l) vs 0 <;> rfl
end Go.Proofs.YtjllpipmaejeoaaGreat.Pl
namespace Go.Proofs.YtjllpipmaejeoaaGreat.Pl
open Go.Proofs.YtjllpipmaejeoaaGreat.R Go.Proofs.YtjllpipmaejeoaaGreat.XV
def zm (c : Int) (_ : Int) (u : y7) : Bool := (u.2.2.1 == 1) && (u.2.2.2.1 == c)
def yce (ks : List y7) (l : List y9) (cs : List y8) (i : Int) (a : y7) : Bool :=
 decide (yS l a.2.1 < 0) || ((a.2.2.1 == 1) && (!(Z5 cs a.2.2.2.1 a.2.2.2.2).2 || Yq (zm a.2.2.2.1) (ks.take i.toNat) 0))
def y0q (n : Int) (a : y7) : Int := if (a.2.2.1 == 1) = true then Go.IntKind.wrap .i64 (n + 1) else n
def ZL (ks : List y7) (l : List y9) (cs : List y8) : Bool := !Yq (yce ks l cs) ks 0 && (ks.foldl y0q 0 == QA cs)
theorem y59 {R : Type} (k0 : (Bool × Int × Int × List yb × List y0 × List y9 × List y8 × List yh × Int × List y7) → Option R) (k1 : (Int × Int × List yb × List y0 × List y9 × List y8 × List yh × Int × List y7) → Option R) (n i : Int) (q : List Int) (t : List y0) (l : List y9) (cs : List y8) (vs : List yh) (z : Int) (ks : List y7) (h0 : 0 ≤ i) (h1 : i < (ks.length : Int)) (hk : ks.length ≤ 1048576) :
  kP k0 k1 (n, i, 0, q, t, l, cs, vs, z, ks) = if Yq (zm (y6 ks i).2.2.2.1) (ks.take i.toNat) 0 = true then k0 (false, n, i, q, t, l, cs, vs, z, ks) else k1 (n, i, q, t, l, cs, vs, z, ks) := by
 unfold kP
 have hlen := yde ks i h0 (by omega)
 refine zQ (step := ZQ k0 k1) (fun k => (n, i, k, q, t, l, cs, vs, z, ks)) (zm (y6 ks i).2.2.2.1) _ _ yH (ks.take i.toNat) (by omega) ?_ ?_
 ·intro again k hk0 hk1
  rw [hlen] at hk1
  have hw : Go.IntKind.wrap .i64 (k + 1) = k + 1 := w64 (by omega) (by omega)
  have hk2 : k < (ks.length : Int) := by omega
  unfold ZQ zm
  rw [yad yH ks i k hk0 hk1]
  have hx : ks.getD k.toNat yH = y6 ks k := rfl
  rw [hx]
  simp only [Bool.cond_eq_ite, decide_eq_true_eq, hk0, hk1, hk2, h0, h1, if_true, hw]
  cases ((y6 ks k).2.2.1 == 1) <;> cases ((y6 ks k).2.2.2.1 == (y6 ks i).2.2.2.1) <;> rfl
 ·intro again k hk
  rw [hlen] at hk
  unfold ZQ
  simp only [Bool.cond_eq_ite, decide_eq_true_eq, if_neg hk]
theorem y5a (q : List Int) (t : List y0) (l : List y9) (cs : List y8) (vs : List yh) (z : Int) (ht : TOk t) (hl : l.length ≤ 1048576) (hc : cs.length ≤ 1048576) : wC (q, t, l, cs, vs, z) = some (ZL (yc t) l cs) := by
 unfold wC Qo ZL
 have hk := ht.keys
 have e : yP (q, t) = some (yc t) := YG q t (by have := ht.len; omega) ht.nodes ht.sum
 simp only [e, Option.bind_some]
 generalize yc t = ks at hk
 refine (y4l (step := jI _ _) (fun (i n : Int) => (n, i, q, t, l, cs, vs, z, ks)) (yce ks l cs) y0q (some false) (fun n => some (n == QA cs)) yH ks (by omega) ?_ ?_ 0).trans ?_
 ·intro again i n h0 h1
  have hw : Go.IntKind.wrap .i64 (i + 1) = i + 1 := w64 (by omega) (by omega)
  unfold jI yce y0q
  have hin := fun (k0 : (Bool × Int × Int × List yb × List y0 × List y9 × List y8 × List yh × Int × List y7) → Option Bool) k1 m => y59 k0 k1 m i q t l cs vs z ks h0 h1 hk
  obtain ⟨⟨x1, x2, x3, x4, x5⟩, hx⟩ : ∃ x, y6 ks i = x := ⟨_, rfl⟩
  have hx' : ks.getD i.toNat yH = (x1, x2, x3, x4, x5) := hx
  rw [hx']
  rw [hx] at hin
  have e1 := Zw l x2 (by omega)
  have e2 := y1r cs x4 x5 hc
  simp only [Bool.cond_eq_ite, decide_eq_true_eq, h0, h1, if_true, hw, hx, e1, e2, hin, Option.bind_some]
  by_cases ha : yS l x2 < 0
  ·simp only [ha, if_true, decide_true, Bool.true_or]
  ·simp only [ha, if_false, decide_false, Bool.false_or]
   by_cases h3 : x3 = 1
   ·have g1 : (x3 == 1) = true := by simp [h3]
    have g2 : (x3 != 1) = false := by simp [h3]
    rw [g1, g2]
    cases (Z5 cs x4 x5).2 <;> cases Yq (zm x4) (ks.take i.toNat) 0 <;> rfl
   ·have g1 : (x3 == 1) = false := by simpa using h3
    have g2 : (x3 != 1) = true := by simpa using h3
    rw [g1, g2]
    rfl
 ·intro again i n hi
  unfold jI
  simp only [Bool.cond_eq_ite, decide_eq_true_eq, if_neg hi, yac cs hc, Option.bind_some]
 ·cases Yq (yce ks l cs) ks 0 <;> rfl
theorem ydf (c : Int) : ∀ (l : List y7) (i : Int) (j : Nat), j < l.length → Yq (zm c) (l.take (j + 1)) i = (Yq (zm c) (l.take j) i || zm c 0 (l.getD j yH))
 | a :: l, i, 0, _ => by simp [Yq, zm]
 | a :: l, i, j + 1, h => by
  have := ydf c l (i + 1) j (by simpa using h)
  rw [List.take_succ_cons, Yq, this, List.take_succ_cons, Yq, List.getD_cons_succ, Bool.or_assoc]
def yet (s : Int × List Bool) (a : y7) : Int × List Bool := (y0q s.1 a, if (a.2.2.1 == 1) = true then s.2.set a.2.2.2.1.toNat true else s.2)
theorem ykf : ∀ (l : List y7) (s : Int × List Bool), (l.foldl yet s).1 = l.foldl y0q s.1
 | [], _ => rfl
 | a :: l, s => ykf l (yet s a)
theorem y5b (q : List Int) (t : List y0) (l : List y9) (cs : List y8) (vs : List yh) (z : Int) (ht : TOk t) (hl : l.length ≤ 1048576) (hc : cs.length = 24) : wK (q, t, l, cs, vs, z) = some (ZL (yc t) l cs) := by
 unfold wK Qs ZL
 have hk := ht.keys
 have e : za (q, t) = some (yc t) := jU q t (by have := ht.len; omega) ht.nodes ht.sum
 rw [if_pos (by omega), if_pos (Int.le_refl _), if_pos (by omega)]
 simp only [e, Option.bind_some]
 generalize yc t = ks at hk
 refine (y55 (step := jO _ _) (fun (i : Int) (s : Int × List Bool) => (s.1, (ks.length : Int), i, q, t, l, cs, vs, z, s.2, ks)) (fun i s a => if yce ks l cs i a = true then .error (some false) else .ok (yet s a)) (fun s => some (s.1 == QA cs)) yH ks (by omega) (fun j s => s.2.length = 24 ∧ ∀ c : Nat, c < 24 → s.2.getD c false = Yq (zm (c : Int)) (ks.take j) 0) ?_ ?_ 0 (Int.le_refl _) (0, List.replicate (Int.toNat 24) yfB) ⟨rfl, fun c hc => ?_⟩).trans ?_
 ·rintro again i ⟨n, tk⟩ h0 h1 ⟨hI1, hI2⟩
  simp only at hI1 hI2
  have hw : Go.IntKind.wrap .i64 (i + 1) = i + 1 := w64 (by omega) (by omega)
  obtain ⟨⟨x1, x2, x3, x4, x5⟩, hx⟩ : ∃ x, y6 ks i = x := ⟨_, rfl⟩
  have hx' : ks.getD i.toNat yH = (x1, x2, x3, x4, x5) := hx
  have hgd : ks.getD i.toNat yH = ks.getD i.toNat yH := rfl
  have e1 := kv l x2 (by omega)
  have e2 := y1s cs x4 x5 (by omega)
  have hcell : (Z5 cs x4 x5).2 = true → 0 ≤ x4 ∧ x4 < 24 := fun h => by
   unfold Z5 at h
   split at h
   ·rename_i hh
    simp only [Bool.and_eq_true] at hh
    have := zv.1 hh.1
    omega
   ·cases h
  rw [hx']
  refine ⟨?_, fun s' hs' => ?_⟩
  ·unfold jO yce yet y0q
   simp only [Bool.cond_eq_ite, decide_eq_true_eq, h0, h1, if_true, hw, hx, e1, e2, Option.bind_some]
   by_cases ha : yS l x2 < 0
   ·simp only [ha, if_true, decide_true, Bool.true_or]
   ·simp only [ha, if_false, decide_false, Bool.false_or]
    by_cases h3 : x3 = 1
    ·have g1 : (x3 == 1) = true := by simp [h3]
     have g2 : (x3 != 1) = false := by simp [h3]
     rw [g1, g2]
     cases hok : (Z5 cs x4 x5).2 with
     | false => rfl
     | true =>
      obtain ⟨b0, b1⟩ := hcell hok
      have b2 : x4 < (tk.length : Int) := by omega
      have hrd : yfC tk x4 = Yq (zm x4) (ks.take i.toNat) 0 := by
       have := hI2 x4.toNat (by omega)
       rw [show ((x4.toNat : Nat) : Int) = x4 by omega] at this
       exact this
      simp only [b0, b2, if_true, hrd]
      cases Yq (zm x4) (ks.take i.toNat) 0 <;> rfl
    ·have g1 : (x3 == 1) = false := by simpa using h3
     have g2 : (x3 != 1) = true := by simpa using h3
     rw [g1, g2]
     rfl
  ·by_cases hb : yce ks l cs i (x1, x2, x3, x4, x5) = true
   ·rw [if_pos hb] at hs'
    cases hs'
   ·rw [if_neg hb] at hs'
    injection hs' with hs'
    subst hs'
    have hsucc : ∀ c : Int, Yq (zm c) (ks.take (i.toNat + 1)) 0 = (Yq (zm c) (ks.take i.toNat) 0 || zm c 0 (x1, x2, x3, x4, x5)) := fun c => by
     rw [ydf c ks 0 i.toNat (by omega), hx']
    unfold yet
    simp only
    by_cases h3 : x3 = 1
    ·have g1 : (x3 == 1) = true := by simp [h3]
     simp only [g1, if_true]
     have hok : (Z5 cs x4 x5).2 = true := by
      unfold yce at hb
      simp only [g1] at hb
      cases hh : (Z5 cs x4 x5).2 with
      | true => rfl
      | false =>
       rw [hh] at hb
       simp at hb
     obtain ⟨b0, b1⟩ := hcell hok
     refine ⟨by simpa using hI1, fun c hc => ?_⟩
     rw [hsucc, ← hI2 c hc]
     unfold zm
     simp only [g1, Bool.true_and]
     rw [List.getD_eq_getElem?_getD, List.getD_eq_getElem?_getD]
     by_cases hcx : c = x4.toNat
     ·rw [← hcx, List.getElem?_set_self (by omega)]
      have : (x4 == (c : Int)) = true := by
       simp only [beq_iff_eq]
       omega
      rw [this]
      simp
     ·rw [List.getElem?_set_ne (fun h => hcx h.symm)]
      have : (x4 == (c : Int)) = false := by
       simp only [beq_eq_false_iff_ne, ne_eq]
       omega
      rw [this]
      simp
    ·have g1 : (x3 == 1) = false := by simpa using h3
     simp only [g1, Bool.false_eq_true, if_false]
     refine ⟨hI1, fun c hc => ?_⟩
     rw [hsucc, ← hI2 c hc]
     unfold zm
     simp only [g1, Bool.false_and, Bool.or_false]
 ·rintro again i ⟨n, tk⟩ hi
  unfold jO
  simp only [Bool.cond_eq_ite, decide_eq_true_eq, if_neg hi, y0p cs (by omega), Option.bind_some]
  rw [Bool.beq_comm]
 ·show (List.replicate 24 false).getD c false = _
  rw [List.getD_eq_getElem?_getD, List.getElem?_replicate]
  simp [Yq, hc]
 ·have := y4k (yce ks l cs) yet (some false) (fun s : Int × List Bool => some (s.1 == QA cs)) ks 0 (0, List.replicate (Int.toNat 24) yfB)
  rw [show (0 : Int).toNat = 0 from rfl, List.drop_zero, this, ykf]
  cases Yq (yce ks l cs) ks 0 <;> rfl
def q9 (z : Int) (_ : Int) (a : y9) : Bool := decide (a.1 ≥ z)
def yr (q : List Int) (t : List y0) (l : List y9) (cs : List y8) (vs : List yh) (z : Int) : Bool :=
 z6 q t && (YO l && (zc cs && (inR z 1 61 && (!Yq (q9 z) l 0 && (ji vs l && ZL (yc t) l cs)))))
theorem y1t (q : List Int) (t : List y0) (l : List y9) (cs : List y8) (vs : List yh) (z : Int) (ht : TOk t) (hl : l.length ≤ 1048576) (hc : cs.length ≤ 1048576) (hv : vs.length ≤ 1048576) (hvn : ∀ v ∈ vs, ByteArray.size v.1 ≤ maxLen) : yK (q, t, l, cs, vs, z) = some (yr q t l cs vs z) := by
 unfold yK QT yr
 refine (zQ (step := Jn _ _) (fun i => (i, q, t, l, cs, vs, z)) (q9 z) (some false) (some (z6 q t && (YO l && (zc cs && (inR z 1 61 && (ji vs l && ZL (yc t) l cs)))))) yx l (by omega) ?_ ?_).trans ?_
 ·intro again i h0 h1
  have hw : Go.IntKind.wrap .i64 (i + 1) = i + 1 := w64 (by omega) (by omega)
  unfold Jn q9
  have hx : l.getD i.toNat yx = yG l i := rfl
  rw [hx]
  simp only [Bool.cond_eq_ite, decide_eq_true_eq, h0, h1, if_true, hw]
 ·intro again i hi
  unfold Jn
  simp only [Bool.cond_eq_ite, decide_eq_true_eq, if_neg hi, VY q t ht, Kw l hl, JP cs hc, ZG, yae q t l cs vs z hl hv hvn, y5a q t l cs vs z ht hl hc, Option.bind_some]
  cases z6 q t <;> cases YO l <;> cases zc cs <;> cases inR z 1 61 <;> cases ji vs l <;> rfl
 ·cases Yq (q9 z) l 0 <;> cases z6 q t <;> cases YO l <;> cases zc cs <;> cases inR z 1 61 <;> rfl
theorem y1u (q : List Int) (t : List y0) (l : List y9) (cs : List y8) (vs : List yh) (z : Int) (ht : TOk t) (hl : l.length ≤ 1048576) (hc : cs.length ≤ 1048576) (hv : vs.length ≤ 1048576) (hvn : ∀ v ∈ vs, ByteArray.size v.1 ≤ maxLen) : zO (q, t, l, cs, vs, z) = some (yr q t l cs vs z) := by
 unfold zO yr
 simp only [VZ q t ht, y1q l hl, y0o cs hc, jh, Option.bind_some]
 cases z6 q t
 ·rfl
 cases YO l
 ·rfl
 cases hcc : zc cs
 ·rfl
 cases inR z 1 61
 ·rfl
 have hc24 : cs.length = 24 := by
  unfold zc at hcc
  simp only [Bool.and_eq_true, beq_iff_eq] at hcc
  omega
 simp only [Bool.not_true, cond_false, Option.bind_some, Bool.true_and]
 unfold y0g
 refine (zQ (step := JM _ _) (fun i => (l, (l.length : Int), i, q, t, l, cs, vs, z)) (q9 z) (some false) (some (ji vs l && ZL (yc t) l cs)) yx l (by omega) ?_ ?_).trans ?_
 ·intro again i h0 h1
  have hw : Go.IntKind.wrap .i64 (i + 1) = i + 1 := w64 (by omega) (by omega)
  unfold JM q9
  have hx : l.getD i.toNat yx = yG l i := rfl
  rw [hx]
  simp only [Bool.cond_eq_ite, decide_eq_true_eq, h0, h1, if_true, hw]
 ·intro again i hi
  unfold JM
  simp only [Bool.cond_eq_ite, decide_eq_true_eq, if_neg hi, yaf q t l cs vs z hl hv hvn, y5b q t l cs vs z ht hl hc24, Option.bind_some]
  cases ji vs l <;> rfl
 ·cases Yq (q9 z) l 0 <;> rfl
end Go.Proofs.YtjllpipmaejeoaaGreat.Pl
namespace Go.Proofs.YtjllpipmaejeoaaGreat.Pl
open Go.Proofs.YtjllpipmaejeoaaGreat.R Go.Proofs.YtjllpipmaejeoaaGreat.XV
theorem J6 {A : Type} (p : Int → A → Bool) : ∀ (l : List A) (i : Int), Yq p l i = false → ∀ a ∈ l, ∃ j, p j a = false
 | [], _, _, a, h => by simp at h
 | b :: l, i, h, a, ha => by
  simp only [Yq, Bool.or_eq_false_iff] at h
  rcases List.mem_cons.1 ha with rfl | ha
  ·exact ⟨i, h.1⟩
  ·exact J6 p l (i + 1) h.2 a ha
theorem y4m {s : List y7} (h : Wn s = true) : s.length ≤ 60 ∧ ∀ k ∈ s, zR k = true := by
 unfold Wn at h
 simp only [Bool.and_eq_true, Bool.not_eq_true', decide_eq_true_eq] at h
 refine ⟨by omega, fun k hk => ?_⟩
 obtain ⟨j, hj⟩ := J6 _ s 0 h.1 k hk
 simpa using hj
theorem y2o {n : List ya} (h : YA n = true) : n.length ≤ 3 ∧ ∀ s ∈ n, Wn s = true := by
 unfold YA at h
 simp only [Bool.and_eq_true, Bool.not_eq_true', decide_eq_true_eq] at h
 refine ⟨by omega, fun s hs => ?_⟩
 obtain ⟨j, hj⟩ := J6 _ n 0 h.1 s hs
 unfold y2m at hj
 simp only [Bool.or_eq_false_iff, Bool.not_eq_false'] at hj
 exact hj.1
theorem jW {q : List Int} {t : List y0} (h : z6 q t = true) : q.length = t.length ∧ 1 ≤ t.length ∧ t.length ≤ 20 ∧ ∀ n ∈ t, YA n = true := by
 unfold z6 at h
 simp only [Bool.and_eq_true, Bool.not_eq_true', decide_eq_true_eq, zv] at h
 obtain ⟨h1, h2, _, h3, _⟩ := h
 refine ⟨h2, by omega, by omega, fun n hn => ?_⟩
 obtain ⟨j, hj⟩ := J6 _ t 0 h3 n hn
 unfold v8 at hj
 simp only [Bool.or_eq_false_iff, Bool.not_eq_false'] at hj
 have h4 := hj.2
 unfold y2n at h4
 simp only [Bool.and_eq_true] at h4
 exact h4.1
end Go.Proofs.YtjllpipmaejeoaaGreat.Pl
namespace Go.Proofs.YtjllpipmaejeoaaGreat.Pl
open Go.Proofs.YtjllpipmaejeoaaGreat.R Go.Proofs.YtjllpipmaejeoaaGreat.XV
theorem KL {a b : y7} : W7 a b = true ↔ a.1 < b.1 ∨ a.1 = b.1 ∧ a.2.1 < b.2.1 := by
 unfold W7
 by_cases h1 : a.1 < b.1
 ·simp [h1]
 ·by_cases h2 : a.1 = b.1 <;> simp [h1, h2]
theorem zx {a b : y7} : Y3 a b = true ↔ a.1 = b.1 ∧ a.2.1 = b.2.1 := by simp [Y3]
theorem y1J {a b c : y7} (h1 : W7 a b = true) (h2 : W7 b c = true) : W7 a c = true := by
 rw [KL] at *
 omega
def srt (l : List y7) : Prop := l.Pairwise fun a b => W7 a b = true
def y9g : List y7 → y7 → List y7
 | [], k => [k]
 | c :: r, k => if W7 c k = true then c :: y9g r k else k :: (c :: r).filter fun x => !Y3 x k
theorem ydg (k : y7) : ∀ (l o : List y7), l.foldl (J5 k) (true, o) = (true, o ++ l.filter fun x => !Y3 x k)
 | [], o => by simp
 | c :: l, o => by
  rw [List.foldl_cons, List.filter_cons]
  have e : J5 k (true, o) c = (true, if Y3 c k then o else o ++ [c]) := by simp [J5]
  rw [e, ydg k l]
  cases Y3 c k <;> simp
def yn0 (k : y7) (r : Bool × List y7) : List y7 := if r.1 then r.2 else r.2 ++ [k]
theorem yag (k : y7) : ∀ (l o : List y7), yn0 k (l.foldl (J5 k) (false, o)) = o ++ y9g l k
 | [], o => by simp [y9g, yn0]
 | c :: l, o => by
  rw [List.foldl_cons, y9g]
  cases hl : W7 c k with
  | true =>
   have hs : Y3 c k = false := by
    cases hs : Y3 c k with
    | false => rfl
    | true =>
     rw [KL] at hl
     rw [zx] at hs
     omega
   have e : J5 k (false, o) c = (false, o ++ [c]) := by simp [J5, hl, hs]
   rw [e, yag k l (o ++ [c])]
   simp
  | false =>
   have e : J5 k (false, o) c = (true, if Y3 c k then o ++ [k] else o ++ [k] ++ [c]) := by simp [J5, hl]
   rw [e, ydg]
   simp only [yn0, if_true, List.filter_cons, Bool.false_eq_true, if_false]
   cases Y3 c k <;> simp
theorem Kh (l : List y7) (k : y7) : Y1 l k = y9g l k := by
 exact (yag k l []).trans (List.nil_append _)
theorem y8P {k : y7} : ∀ {l : List y7} {x : y7}, x ∈ y9g l k → x = k ∨ x ∈ l
 | [], x, h => by simpa [y9g] using h
 | c :: r, x, h => by
  rw [y9g] at h
  split at h
  ·rcases List.mem_cons.1 h with rfl | h
   ·exact .inr (by simp)
   ·rcases y8P h with h | h
    ·exact .inl h
    ·exact .inr (by simp [h])
  ·rcases List.mem_cons.1 h with rfl | h
   ·exact .inl rfl
   ·exact .inr (List.mem_filter.1 h).1
theorem ydh (k : y7) : ∀ (l : List y7), srt l → srt (y9g l k)
 | [], _ => by simp [srt, y9g]
 | c :: r, h => by
  obtain ⟨h1, h2⟩ := List.pairwise_cons.1 h
  rw [y9g]
  split
  ·rename_i hl
   refine List.pairwise_cons.2 ⟨fun y hy => ?_, ydh k r h2⟩
   rcases y8P hy with rfl | hy
   ·exact hl
   ·exact h1 y hy
  ·rename_i hl
   refine List.pairwise_cons.2 ⟨fun y hy => ?_, List.Pairwise.filter _ h⟩
   obtain ⟨hy, hs⟩ := List.mem_filter.1 hy
   have hs' : ¬ (y.1 = k.1 ∧ y.2.1 = k.2.1) := fun e => by
    rw [zx.2 e] at hs
    cases hs
   rw [KL] at hl ⊢
   rcases List.mem_cons.1 hy with rfl | hy
   ·omega
   ·have := KL.1 (h1 y hy)
    omega
theorem wj {l : List y7} (k : y7) (h : srt l) : srt (Y1 l k) := by rw [Kh]; exact ydh k l h
theorem y0Y {l : List y7} {k x : y7} (h : x ∈ Y1 l k) : x = k ∨ x ∈ l := by rw [Kh] at h; exact y8P h
theorem qI : ∀ (b a : List y7), srt a → srt (Z4 a b)
 | [], _, h => h
 | c :: b, a, h => qI b _ (wj c h)
theorem y6N : ∀ (b a : List y7) {x : y7}, x ∈ Z4 a b → x ∈ a ∨ x ∈ b
 | [], _, _, h => .inl h
 | c :: b, a, x, h => by
  rcases y6N b (Y1 a c) h with h | h
  ·rcases y0Y h with rfl | h
   ·exact .inr (by simp)
   ·exact .inl h
  ·exact .inr (by simp [h])
theorem ydi : ∀ (l s : List y7), l.foldl Vj s = s ++ l.filter fun c => !decide (c.2.2.1 = 0)
 | [], s => by simp
 | c :: l, s => by
  rw [List.foldl_cons, ydi l, List.filter_cons]
  unfold Vj
  by_cases h : c.2.2.1 = 0 <;> simp [h]
theorem Q1 (l : List y7) : W8 l = l.filter fun c => !decide (c.2.2.1 = 0) := by
 have := ydi l []
 simpa [W8] using this
theorem KM {l : List y7} (h : srt l) : srt (W8 l) := by rw [Q1]; exact List.Pairwise.filter _ h
theorem y5c {l : List y7} {x : y7} (h : x ∈ W8 l) : x ∈ l := by rw [Q1] at h; exact (List.mem_filter.1 h).1
theorem y5d : ∀ (n : List ya) (s : List y7), srt s → srt (n.foldl Z4 s)
 | [], _, h => h
 | c :: n, s, h => y5d n _ (qI c s h)
theorem yah : ∀ (n : List ya) (s : List y7) {x : y7}, x ∈ n.foldl Z4 s → x ∈ s ∨ ∃ c ∈ n, x ∈ (show List y7 from c)
 | [], _, _, h => .inl h
 | c :: n, s, x, h => by
  rcases yah n (Z4 s c) h with h | ⟨d, hd, hx⟩
  ·rcases y6N c s h with h | h
   ·exact .inl h
   ·exact .inr ⟨c, by simp, h⟩
  ·exact .inr ⟨d, by simp [hd], hx⟩
theorem KN (n : List ya) : srt (yz n) := KM (y5d n [] List.Pairwise.nil)
theorem y0r {n : List ya} {x : y7} (h : x ∈ yz n) : ∃ c ∈ n, x ∈ (show List y7 from c) := by
 rcases yah n [] (y5c h) with h | h
 ·cases h
 ·exact h
theorem wS {A : Type} {p : Int → A → Bool} (da : A) : ∀ (l : List A) (i : Int), (∀ j : Nat, j < l.length → p (i + j) (l.getD j da) = false) → Yq p l i = false
 | [], _, _ => rfl
 | a :: l, i, h => by
  rw [Yq, Bool.or_eq_false_iff]
  refine ⟨by simpa using h 0 (by simp), wS da l (i + 1) fun j hj => ?_⟩
  have := h (j + 1) (by simpa using hj)
  rw [List.getD_cons_succ] at this
  rw [show i + 1 + (j : Int) = i + ((j + 1 : Nat) : Int) by omega]
  exact this
theorem yF {A : Type} (da : A) (l : List A) (j : Nat) (h : j < l.length) : l.getD j da = l[j] := by simp [List.getD, h]
theorem ygq {l : List y7} (h : srt l) : Yq (ws l) l 0 = false := by
 refine wS yH l 0 fun j hj => ?_
 unfold ws
 cases j with
 | zero => simp
 | succ j =>
  have h2 := List.pairwise_iff_getElem.1 h j (j + 1) (by omega) hj (by omega)
  rw [show ((0 : Int) + ((j + 1 : Nat) : Int) - 1).toNat = j by omega, yF _ _ _ (by omega), yF _ _ _ hj, h2]
  simp
theorem ytQ {l : List y7} (h : srt l) (hk : ∀ k ∈ l, zR k = true) (hl : l.length ≤ 60) : Wn l = true := by
 unfold Wn
 rw [ygq h, wS yH l 0 fun j hj => by
  rw [yF _ _ _ hj, hk _ (List.getElem_mem hj)]
  rfl]
 simp
 omega
def yM (l : List y7) : List ya := if l.length = 0 then [] else [l]
theorem y32 {l : List y7} (h : srt l) (hk : ∀ k ∈ l, zR k = true) (hl : l.length ≤ 8) : YA (yM l) = true := by
 unfold yM
 split
 ·rfl
 ·rename_i h0
  have h1 := ytQ h hk (by omega)
  have h2 : y1p 0 l = (List.length l : Int) := by
   unfold y1p
   rw [w64 (by omega) (by omega)]
   omega
  unfold YA
  simp only [Yq, y2m, h1, Bool.not_true, Bool.false_or, Bool.or_false, List.foldl_cons, List.foldl_nil, h2, List.length_cons, List.length_nil]
  rw [show (((List.length l : Nat) : Int) == 0) = false from beq_eq_false_iff_ne.2 (by omega)]
  simp
  omega
end Go.Proofs.YtjllpipmaejeoaaGreat.Pl
namespace Go.Proofs.YtjllpipmaejeoaaGreat.Pl
open Go.Proofs.YtjllpipmaejeoaaGreat.R Go.Proofs.YtjllpipmaejeoaaGreat.XV
theorem y4n {T A R : Type} {step : (T → Option R) → T → Option R} (da : A) (l : List A) (St0 : Int → T) (St1 : Int → List A → T) (k0 : Option R) (k1 : List A → Option R) (hl : l.length ≤ 1099511627776)
  (h0 : ∀ again i, 0 ≤ i → i < ((List.length l : Nat) : Int) → step again (St0 i) = again (St1 (i + 1) [l.getD i.toNat da]))
  (h1 : ∀ again i o, 0 ≤ i → i < ((List.length l : Nat) : Int) → List.length o ≤ List.length l → step again (St1 i o) = again (St1 (i + 1) (o ++ [l.getD i.toNat da])))
  (hd0 : ∀ again i, ¬ i < ((List.length l : Nat) : Int) → step again (St0 i) = k0)
  (hd1 : ∀ again i o, ¬ i < ((List.length l : Nat) : Int) → step again (St1 i o) = k1 o) : zS step Y4 (St0 0) = if l.length = 0 then k0 else k1 l := by
 have key : ∀ (m : Nat) (i : Int), 0 ≤ i → i ≤ l.length → l.length - i.toNat < m → zS step m (St1 i (l.take i.toNat)) = k1 l := by
  intro m
  induction m with
  | zero => intro i _ _ h; omega
  | succ m ih =>
   intro i i0 i1 hm
   rw [zS]
   by_cases hi : i < ((List.length l : Nat) : Int)
   ·have e1 : (i + 1).toNat = i.toNat + 1 := by omega
    have e2 : l.take i.toNat ++ [l.getD i.toNat da] = l.take (i + 1).toNat := by
     rw [e1, List.take_succ_eq_append_getElem (by omega), y8H da l i i0 hi]
    rw [h1 _ i _ i0 hi (by rw [List.length_take]; omega), e2]
    exact ih (i + 1) (by omega) (by omega) (by omega)
   ·rw [hd1 _ i _ hi, List.take_of_length_le (by omega)]
 have hF : Y4 = (Y4 - 1) + 1 := by
  have := y1C
  omega
 rw [hF, zS]
 by_cases h : l.length = 0
 ·rw [if_pos h, hd0 _ 0 (by omega)]
 ·rw [if_neg h, h0 _ 0 (Int.le_refl _) (by omega)]
  have e : [l.getD (0 : Int).toNat da] = l.take (0 + 1 : Int).toNat := by
   cases l with
   | nil => simp at h
   | cons a l => rfl
  rw [e]
  exact key _ _ (by omega) (by omega) (by
   have := y1C
   omega)
theorem yuD {A : Type} (a : A) (k : Nat) (h : k < 140737488355328) : List.length [a] * k < 140737488355328 := by
 simp only [List.length_cons, List.length_nil]
 omega
end Go.Proofs.YtjllpipmaejeoaaGreat.Pl
namespace Go.Proofs.YtjllpipmaejeoaaGreat.Pl
open Go.Proofs.YtjllpipmaejeoaaGreat.R Go.Proofs.YtjllpipmaejeoaaGreat.XV
def y3X (n : y0) : Prop := List.length n ≤ 1048576 ∧ ∀ b ∈ (show List ya from n), List.length b ≤ 1048576
theorem qa (n : List ya) (h : y3X n) : zo n = some n := by
 have h1 : n.length ≤ 1048576 := h.1
 have e : zo n = if n.length = 0 then some ([] : List ya) else some n := by
  unfold zo QU
  refine y4n (step := YX _ _) yY n (fun i => Sum.inl (i, n)) (fun i o => Sum.inr (i, n, o)) _ (fun o => some o) (by omega) ?_ ?_ ?_ ?_
  ·intro again i i0 i1
   have hw : Go.IntKind.wrap .i64 (i + 1) = i + 1 := w64 (by omega) (by omega)
   have hr : List.length (yn n i) ≤ 1048576 := h.2 _ (yW yY n i i0 i1)
   simp only [YX, Bool.cond_eq_ite, decide_eq_true_eq, i0, i1, if_true, hw]
   rw [if_pos (by simp only [List.length_nil]; omega), if_pos (yuD _ _ (by decide))]
   rfl
  ·intro again i o i0 i1 i2
   have hw : Go.IntKind.wrap .i64 (i + 1) = i + 1 := w64 (by omega) (by omega)
   have hr : List.length (yn n i) ≤ 1048576 := h.2 _ (yW yY n i i0 i1)
   simp only [YX, Bool.cond_eq_ite, decide_eq_true_eq, i0, i1, if_true, hw]
   rw [if_pos (by simp only [List.length_nil]; omega), if_pos (by simp only [List.length_cons, List.length_nil]; omega)]
   rfl
  ·intro again i hi
   simp only [YX, Bool.cond_eq_ite, decide_eq_true_eq, if_neg hi]
  ·intro again i o hi
   simp only [YX, Bool.cond_eq_ite, decide_eq_true_eq, if_neg hi]
 rw [e]
 split
 ·rename_i h0
  rw [List.length_eq_zero_iff.1 h0]
 ·rfl
theorem v9 (l : List y7) (h : l.length ≤ 1048576) : Ya l = some l := by
 unfold Ya
 rw [if_pos (by simp only [List.length_nil]; omega)]
 rfl
theorem va (n : List ya) (h : y3X n) : zG n = some n := by
 have h1 : n.length ≤ 1048576 := h.1
 have e : zG n = if n.length = 0 then some ([] : List ya) else some n := by
  unfold zG qE
  refine y4n (step := Yo _ _) yY n (fun i => Sum.inl (n, ((List.length n : Nat) : Int), i)) (fun i o => Sum.inr (n, ((List.length n : Nat) : Int), i, o)) _ (fun o => some o) (by omega) ?_ ?_ ?_ ?_
  ·intro again i i0 i1
   have hw : Go.IntKind.wrap .i64 (i + 1) = i + 1 := w64 (by omega) (by omega)
   have hr : List.length (yn n i) ≤ 1048576 := h.2 _ (yW yY n i i0 i1)
   simp only [Yo, Bool.cond_eq_ite, decide_eq_true_eq, i0, i1, if_true, hw, v9 _ hr, Option.bind_some]
   rw [if_pos (yuD _ _ (by decide))]
   rfl
  ·intro again i o i0 i1 i2
   have hw : Go.IntKind.wrap .i64 (i + 1) = i + 1 := w64 (by omega) (by omega)
   have hr : List.length (yn n i) ≤ 1048576 := h.2 _ (yW yY n i i0 i1)
   simp only [Yo, Bool.cond_eq_ite, decide_eq_true_eq, i0, i1, if_true, hw, v9 _ hr, Option.bind_some]
   rw [if_pos (by simp only [List.length_cons, List.length_nil]; omega)]
   rfl
  ·intro again i hi
   simp only [Yo, Bool.cond_eq_ite, decide_eq_true_eq, if_neg hi]
  ·intro again i o hi
   simp only [Yo, Bool.cond_eq_ite, decide_eq_true_eq, if_neg hi]
 rw [e]
 split
 ·rename_i h0
  rw [List.length_eq_zero_iff.1 h0]
 ·rfl
theorem qb (q : List yb) (t : List y0) (hq : q.length ≤ 1048576) (ht : t.length ≤ 1048576) (hn : ∀ n ∈ t, y3X n) : Zf (q, t) = some (q, t) := by
 have e : Zf (q, t) = if t.length = 0 then some (q, ([] : List y0)) else some (q, t) := by
  unfold Zf QV
  simp only [List.length_nil, List.nil_append]
  rw [if_pos (by omega)]
  refine y4n (step := YY _ _) yf t (fun i => Sum.inl (i, q, t, q)) (fun i o => Sum.inr (i, q, t, q, o)) _ (fun o => some (q, o)) (by omega) ?_ ?_ ?_ ?_
  ·intro again i i0 i1
   have hw : Go.IntKind.wrap .i64 (i + 1) = i + 1 := w64 (by omega) (by omega)
   have hr : y3X (ye t i) := hn _ (yW yf t i i0 i1)
   simp only [YY, Bool.cond_eq_ite, decide_eq_true_eq, i0, i1, if_true, hw, qa _ hr, Option.bind_some]
   rw [if_pos (yuD _ _ (by decide))]
   rfl
  ·intro again i o i0 i1 i2
   have hw : Go.IntKind.wrap .i64 (i + 1) = i + 1 := w64 (by omega) (by omega)
   have hr : y3X (ye t i) := hn _ (yW yf t i i0 i1)
   simp only [YY, Bool.cond_eq_ite, decide_eq_true_eq, i0, i1, if_true, hw, qa _ hr, Option.bind_some]
   rw [if_pos (by simp only [List.length_cons, List.length_nil]; omega)]
   rfl
  ·intro again i hi
   simp only [YY, Bool.cond_eq_ite, decide_eq_true_eq, if_neg hi]
  ·intro again i o hi
   simp only [YY, Bool.cond_eq_ite, decide_eq_true_eq, if_neg hi]
 rw [e]
 split
 ·rename_i h0
  rw [List.length_eq_zero_iff.1 h0]
 ·rfl
theorem Qv (l : List yb) (h : l.length ≤ 1048576) : je l = some l := by
 unfold je
 rw [if_pos (by simp only [List.length_nil]; omega)]
 rfl
theorem Qw (q : List yb) (t : List y0) (hq : q.length ≤ 1048576) (ht : t.length ≤ 1048576) (hn : ∀ n ∈ t, y3X n) : zH (q, t) = some (q, t) := by
 have e : zH (q, t) = if t.length = 0 then some (q, ([] : List y0)) else some (q, t) := by
  unfold zH qF
  simp only [Qv q hq, Option.bind_some]
  refine y4n (step := Yp _ _) yf t (fun i => Sum.inl (t, ((List.length t : Nat) : Int), i, q)) (fun i o => Sum.inr (t, ((List.length t : Nat) : Int), i, q, o)) _ (fun o => some (q, o)) (by omega) ?_ ?_ ?_ ?_
  ·intro again i i0 i1
   have hw : Go.IntKind.wrap .i64 (i + 1) = i + 1 := w64 (by omega) (by omega)
   have hr : y3X (ye t i) := hn _ (yW yf t i i0 i1)
   simp only [Yp, Bool.cond_eq_ite, decide_eq_true_eq, i0, i1, if_true, hw, va _ hr, Option.bind_some]
   rw [if_pos (yuD _ _ (by decide))]
   rfl
  ·intro again i o i0 i1 i2
   have hw : Go.IntKind.wrap .i64 (i + 1) = i + 1 := w64 (by omega) (by omega)
   have hr : y3X (ye t i) := hn _ (yW yf t i i0 i1)
   simp only [Yp, Bool.cond_eq_ite, decide_eq_true_eq, i0, i1, if_true, hw, va _ hr, Option.bind_some]
   rw [if_pos (by simp only [List.length_cons, List.length_nil]; omega)]
   rfl
  ·intro again i hi
   simp only [Yp, Bool.cond_eq_ite, decide_eq_true_eq, if_neg hi]
  ·intro again i o hi
   simp only [Yp, Bool.cond_eq_ite, decide_eq_true_eq, if_neg hi]
 rw [e]
 split
 ·rename_i h0
  rw [List.length_eq_zero_iff.1 h0]
 ·rfl
theorem kz (q : List yb) (t : List y0) (l : List y9) (cs : List y8) (vs : List yh) (z : Int) (h : small q t l cs vs) : ym (q, t, l, cs, vs, z) = some (q, t, l, cs, vs, z) := by
 obtain ⟨h1, h2, h3, h4, h5, h6⟩ := h
 unfold ym Y8
 simp only [qb q t h1 h2 (fun n hn => vt h3 hn), Option.bind_some, List.length_nil, List.nil_append]
 rw [if_pos (by omega), if_pos (by omega)]
 simp only [Option.bind_some]
 rw [if_pos (by omega)]
theorem y3Y (q : List yb) (t : List y0) (l : List y9) (cs : List y8) (vs : List yh) (z : Int) (h : small q t l cs vs) : jg (q, t, l, cs, vs, z) = some (q, t, l, cs, vs, z) := by
 obtain ⟨h1, h2, h3, h4, h5, h6⟩ := h
 unfold jg Z2 YF
 simp only [Qw q t h1 h2 (fun n hn => vt h3 hn), Option.bind_some, List.length_nil, List.nil_append]
 rw [if_pos (by omega)]
 simp only [Option.bind_some]
 rw [if_pos (by omega)]
 simp only [Option.bind_some]
 rw [if_pos (by omega)]
end Go.Proofs.YtjllpipmaejeoaaGreat.Pl
namespace Go.Proofs.YtjllpipmaejeoaaGreat.Pl
open Go.Proofs.YtjllpipmaejeoaaGreat.R Go.Proofs.YtjllpipmaejeoaaGreat.XV
def y3z (t : List y0) (l : List y9) (blk id : Int) : Bool × y7 := zB (zF (yc t) blk) ((yN l id).drop 1)
theorem ycf (ks : List y7) : zB ks [] = (false, (0, 0, 0, 0, 0)) := by
 unfold zB
 induction ks with
 | nil => rfl
 | cons a ks ih =>
  rw [List.foldl_cons, show W9 [] (false, ((0 : Int), (0 : Int), (0 : Int), (0 : Int), (0 : Int))) a = (false, (0, 0, 0, 0, 0)) by
   unfold W9 yhd zE
   simp]
  exact ih
theorem y2p (q : List Int) (t : List y0) (l : List y9) (blk id : Int) (ht : TOk t) (hl : l.length ≤ 1048576) : Z8 (q, t, l, blk, id) = some (ans (y3z t l blk id)) := by
 unfold Z8 y3z
 have hp := y0X l id hl
 simp only [y1m l id hl, Option.bind_some]
 generalize yN l id = p at hp
 cases p with
 | nil =>
  rw [show List.drop 1 ([] : List Int) = [] from rfl, ycf]
  rfl
 | cons a p =>
  have h1 : (((a :: p).length : Int) == 0) = false := by
   simp only [List.length_cons, beq_eq_false_iff_ne, ne_eq]
   omega
  have h2 : (1 : Int) ≤ ((a :: p).length : Int) := by
   simp only [List.length_cons]
   omega
  have e : jv (q, t, blk, List.drop (Int.toNat (1 : Int)) (List.take (Int.toNat ((a :: p).length : Int)) (a :: p))) = some (ans (zB (zF (yc t) blk) (List.drop 1 (a :: p)))) := by
   rw [show Int.toNat ((a :: p).length : Int) = (a :: p).length by omega, List.take_length]
   exact y3x q t blk _ ht (by simp only [List.length_drop]; omega)
  simp only [h1, cond_false, h2, Int.le_refl, if_true, e, Option.bind_some]
  rw [if_pos (by omega)]
theorem y8Q (q : List Int) (t : List y0) (l : List y9) (blk id : Int) (ht : TOk t) (hl : l.length ≤ 1048576) : jQ (q, t, l, blk, id) = some (ans (y3z t l blk id)) := by
 unfold jQ y3z
 have hp := y0X l id hl
 simp only [y1n l id hl, Option.bind_some]
 generalize yN l id = p at hp
 have e : jx (q, t, blk, List.drop (Int.toNat (if (p.length : Int) < (1 : Int) then (p.length : Int) else (1 : Int))) (List.take (Int.toNat (p.length : Int)) p)) = some (ans (zB (zF (yc t) blk) (List.drop 1 p))) := by
  rw [show Int.toNat (p.length : Int) = p.length by omega, List.take_length]
  have : List.drop (Int.toNat (if (p.length : Int) < (1 : Int) then (p.length : Int) else (1 : Int))) p = List.drop 1 p := by
   cases p with
   | nil => rfl
   | cons a p =>
    rw [if_neg (by simp only [List.length_cons]; omega)]
    rfl
  rw [this]
  exact y1o q t blk _ ht (by simp only [List.length_drop]; omega)
 rw [if_pos (by split <;> omega), if_pos (by split <;> omega), if_pos (Int.le_refl _), e]
 rfl
def y0s (vs : List yh) (id : Int) : Bool := !Yq (JQ id) vs 0
theorem y0t (q : List Int) (t : List y0) (l : List y9) (cs : List y8) (vs : List yh) (z id : Int) (hv : vs.length ≤ 1048576) : kT (q, t, l, cs, vs, z, id) = some (y0s vs id) := by
 unfold kT y2g y0s
 refine (zQ (step := WQ _ _) (fun i => (id, i, q, t, l, cs, vs, z)) (JQ id) (some false) (some true) Y2 vs (by omega) ?_ ?_).trans ?_
 ·intro again i h0 h1
  have hw : Go.IntKind.wrap .i64 (i + 1) = i + 1 := w64 (by omega) (by omega)
  unfold WQ JQ
  have hx : vs.getD i.toNat Y2 = yi vs i := rfl
  rw [hx]
  simp only [Bool.cond_eq_ite, decide_eq_true_eq, h0, h1, if_true, hw]
 ·intro again i hi
  unfold WQ
  simp only [Bool.cond_eq_ite, decide_eq_true_eq, if_neg hi]
 ·cases Yq (JQ id) vs 0 <;> rfl
theorem y3A (q : List Int) (t : List y0) (l : List y9) (cs : List y8) (vs : List yh) (z id : Int) (hv : vs.length ≤ 1048576) : K9 (q, t, l, cs, vs, z, id) = some (y0s vs id) := by
 have key : ze (vs, id) = some (zE (fun u : yh => u.2.1 == id) vs 0, id) := by
  unfold ze YV
  refine (Yz (step := z8 _ _) (fun i => (vs, (vs.length : Int), i, id)) (fun u : yh => u.2.1 == id) (fun x => some (x, id)) (some (-1, id)) Y2 vs (by omega) ?_ ?_).trans ?_
  ·intro again i h0 h1
   have hw : Go.IntKind.wrap .i64 (i + 1) = i + 1 := w64 (by omega) (by omega)
   unfold z8 vn
   simp only [Bool.cond_eq_ite, decide_eq_true_eq, h0, h1, if_true, hw, Option.bind_some]
   rfl
  ·intro again i hi
   unfold z8
   simp only [Bool.cond_eq_ite, decide_eq_true_eq, if_neg hi]
  ·rcases Yh (fun u : yh => u.2.1 == id) Y2 vs 0 (Int.le_refl _) with h | ⟨h1, h2, h3⟩
   ·rw [h]
    rfl
   ·rw [if_neg (by omega)]
 unfold K9 zq y0s
 rw [key]
 simp only [Option.bind_some, ge_iff_le]
 rw [y8O _ vs 0 0 (Int.le_refl _)]
 rfl
def Wa (q : List Int) (sp : Int) : Nat → Int
 | 0 => -1
 | n + 1 => if q.getD n 0 ≤ sp then (n : Int) else Wa q sp n
def jX (blk age : Int) : Int := Go.IntKind.wrap .i64 (Go.IntKind.wrap .i64 ((64 : Int) * blk) + age)
theorem y6O (q : List Int) (sp : Int) : ∀ n, -1 ≤ Wa q sp n ∧ Wa q sp n < n
 | 0 => by simp [Wa]
 | n + 1 => by
  have := y6O q sp n
  rw [Wa]
  split <;> omega
theorem y0u (q : List Int) (t : List y0) (blk age : Int) (hq : q.length ≤ 1048576) : J0 (q, t, blk, age) = some (Wa q (jX blk age) q.length) := by
 unfold J0 Qp
 have h := Zv (step := wX (fun x2 => some x2)) (fun u : wW => q.length - u.2.2.2.1.toNat) (fun u => ∃ n : Nat, n ≤ q.length ∧ u = (blk, age, Wa q (jX blk age) n, (n : Int), q, t)) (fun _ => some (Wa q (jX blk age) q.length)) ?_ (blk, age, -1, 0, q, t) ⟨0, by omega, rfl⟩ (by simp; omega)
 ·exact h
 ·rintro again u ⟨n, hn, rfl⟩ hag
  have hw : Go.IntKind.wrap .i64 ((n : Int) + 1) = ((n + 1 : Nat) : Int) := by rw [w64 (by omega) (by omega)]; omega
  unfold wX JX
  have h0 : 0 ≤ (n : Int) := by omega
  by_cases hlt : (n : Int) < (q.length : Int)
  ·have hx : zt q (n : Int) = q.getD n 0 := rfl
   simp only [Bool.cond_eq_ite, decide_eq_true_eq, hlt, h0, if_true, Option.bind_some, hw, hx]
   have e := hag (blk, age, Wa q (jX blk age) (n + 1), ((n + 1 : Nat) : Int), q, t) ⟨n + 1, by omega, rfl⟩ (by simp only; omega)
   rw [Wa] at e
   unfold jX at e ⊢
   split
   ·rename_i hc
    rw [if_pos hc] at e
    exact e
   ·rename_i hc
    rw [if_neg hc] at e
    exact e
  ·rw [show n = q.length by omega]
   simp
theorem y0v (q : List Int) (t : List y0) (blk age : Int) (hq : q.length ≤ 1048576) : J4 (q, t, blk, age) = some (Wa q (jX blk age) q.length) := by
 unfold J4 Qt
 rw [w64 (n := (q.length : Int) - 1) (by omega) (by omega)]
 have h := Zv (step := W3 (fun x2 => some x2) (fun x3 => some (-1 : Int))) (fun u : W2 => (u.2.2.1 + 1).toNat) (fun u => ∃ n : Nat, n ≤ q.length ∧ u = (blk, age, (n : Int) - 1, q, t)) (fun u => some (Wa q (jX blk age) (u.2.2.1 + 1).toNat)) ?_ (blk, age, (q.length : Int) - 1, q, t) ⟨q.length, by omega, rfl⟩ (by simp; omega)
 ·rw [h]
  simp only
  rw [show ((q.length : Int) - 1 + 1).toNat = q.length by omega]
 ·rintro again u ⟨n, hn, rfl⟩ hag
  unfold W3 Zo
  cases n with
  | zero => simp [Wa]
  | succ n =>
   have e1 : ((n + 1 : Nat) : Int) - 1 = (n : Int) := by omega
   have hw : Go.IntKind.wrap .i64 ((n : Int) - 1) = (n : Int) - 1 := w64 (by omega) (by omega)
   have hx : zt q (n : Int) = q.getD n 0 := rfl
   have h0 : 0 ≤ (n : Int) := by omega
   have h1 : (n : Int) < (q.length : Int) := by omega
   rw [e1]
   simp only [Bool.cond_eq_ite, decide_eq_true_eq, ge_iff_le, h0, h1, if_true, Option.bind_some, hw, hx]
   have e := hag (blk, age, (n : Int) - 1, q, t) ⟨n, by omega, rfl⟩ (by simp only; omega)
   rw [e]
   simp only
   rw [show ((n : Int) - 1 + 1).toNat = n by omega, show ((n : Int) + 1).toNat = n + 1 by omega, Wa]
   unfold jX
   split <;> rfl
abbrev Ans : Type := Int × Int × Int × Int × Int × Bool
def y5e : Ans := (0, 0, 0, 0, 0, false)
def atP (blk age : Int) (a : y7) : Bool := a.1 == blk && a.2.1 == age
def y0w (a : y7) : Ans := (a.1, a.2.1, a.2.2.1, a.2.2.2.1, a.2.2.2.2, true)
def Wo (l : List y7) (blk age : Int) : Ans := if zE (atP blk age) l 0 < 0 then y5e else y0w (y6 l (zE (atP blk age) l 0))
theorem y2q (l : List y7) (blk age : Int) (hl : l.length ≤ 1073741824) : Wi (l, blk, age) = some (Wo l blk age) := by
 unfold Wi y1i Wo
 refine (Yz (step := wE _ _) (fun i => (l, blk, age, i, 0, 0, 0, 0, 0)) (atP blk age) (fun i => some (y0w (y6 l i))) (some y5e) yH l (by omega) ?_ ?_).trans ?_
 ·intro again i h0 h1
  have hw : Go.IntKind.wrap .i64 (i + 1) = i + 1 := w64 (by omega) (by omega)
  unfold wE atP y0w
  obtain ⟨⟨x1, x2, x3, x4, x5⟩, hx⟩ : ∃ x, y6 l i = x := ⟨_, rfl⟩
  have hx' : l.getD i.toNat yH = (x1, x2, x3, x4, x5) := hx
  rw [hx']
  simp only [Bool.cond_eq_ite, decide_eq_true_eq, h0, h1, if_true, hw, hx]
  cases (x1 == blk) <;> cases (x2 == age) <;> rfl
 ·intro again i hi
  unfold wE
  simp only [Bool.cond_eq_ite, decide_eq_true_eq, if_neg hi]
  rfl
 ·split <;> rfl
theorem y2r (l : List y7) (blk age : Int) (hl : l.length ≤ 1073741824) : Wl (l, blk, age) = some (Wo l blk age) := by
 unfold Wl y1l Wo
 refine (Yz (step := wM _ _) (fun i => (blk, age, l, (l.length : Int), i, 0, 0, 0, 0, 0)) (atP blk age) (fun i => some (y0w (y6 l i))) (some y5e) yH l (by omega) ?_ ?_).trans ?_
 ·intro again i h0 h1
  have hw : Go.IntKind.wrap .i64 (i + 1) = i + 1 := w64 (by omega) (by omega)
  unfold wM atP y0w
  obtain ⟨⟨x1, x2, x3, x4, x5⟩, hx⟩ : ∃ x, y6 l i = x := ⟨_, rfl⟩
  have hx' : l.getD i.toNat yH = (x1, x2, x3, x4, x5) := hx
  rw [hx']
  simp only [Bool.cond_eq_ite, decide_eq_true_eq, h0, h1, if_true, hw, hx]
  cases (x1 == blk) <;> cases (x2 == age) <;> rfl
 ·intro again i hi
  unfold wM
  simp only [Bool.cond_eq_ite, decide_eq_true_eq, if_neg hi]
  rfl
 ·split <;> rfl
def jy (n : List ya) (blk age : Int) : Nat → Ans
 | 0 => y5e
 | m + 1 => if (Wo (n.getD m yY) blk age).2.2.2.2.2 = true then (if ((Wo (n.getD m yY) blk age).2.2.1 == 0) = true then y5e else Wo (n.getD m yY) blk age) else jy n blk age m
theorem y61 (n : List ya) (blk age : Int) (hn : n.length ≤ 1048576) (hs : ∀ s ∈ n, List.length s ≤ 1073741824) : WJ (n, blk, age) = some (jy n blk age n.length) := by
 unfold WJ QX
 rw [w64 (n := (n.length : Int) - 1) (by omega) (by omega)]
 refine (Zv (step := WI _ _) (fun u : WH => (u.2.2.1 + 1).toNat) (fun u => ∃ m : Nat, m ≤ n.length ∧ u = (blk, age, (m : Int) - 1, n, 0, 0, 0, 0, 0)) (fun u => some (jy n blk age (u.2.2.1 + 1).toNat)) ?_ (blk, age, (n.length : Int) - 1, n, 0, 0, 0, 0, 0) ⟨n.length, by omega, rfl⟩ (by simp; omega)).trans ?_
 ·rintro again u ⟨m, hm, rfl⟩ hag
  unfold WI
  cases m with
  | zero => rfl
  | succ m =>
   have e1 : ((m + 1 : Nat) : Int) - 1 = (m : Int) := by omega
   have hw : Go.IntKind.wrap .i64 ((m : Int) - 1) = (m : Int) - 1 := w64 (by omega) (by omega)
   have h0 : 0 ≤ (m : Int) := by omega
   have h1 : (m : Int) < (n.length : Int) := by omega
   have e := y2q (yn n (m : Int)) blk age (hs _ (yW yY n (m : Int) h0 h1))
   have hx : n.getD m yY = yn n (m : Int) := rfl
   rw [e1]
   simp only [Bool.cond_eq_ite, decide_eq_true_eq, ge_iff_le, h0, h1, if_true, Option.bind_some, hw, e]
   have e' := hag (blk, age, (m : Int) - 1, n, 0, 0, 0, 0, 0) ⟨m, by omega, rfl⟩ (by simp only; omega)
   rw [e', show ((m : Int) + 1).toNat = m + 1 by omega, jy, hx]
   simp only
   rw [show ((m : Int) - 1 + 1).toNat = m by omega]
   obtain ⟨r1, r2, r3, r4, r5, r6⟩ := Wo (yn n (m : Int)) blk age
   cases r6
   ·rfl
   ·cases h3 : (r3 == 0) <;> simp [h3, y5e]
 ·simp only
  rw [show ((n.length : Int) - 1 + 1).toNat = n.length by omega]
theorem y62 (n : List ya) (blk age : Int) (hn : n.length ≤ 1048576) (hs : ∀ s ∈ n, List.length s ≤ 1073741824) : ko (n, blk, age) = some (jy n blk age n.length) := by
 unfold ko y0h
 rw [w64 (n := (n.length : Int) - 1) (by omega) (by omega)]
 refine (Zv (step := kn _ _) (fun u : km => (u.2.2.1 + 1).toNat) (fun u => ∃ m : Nat, m ≤ n.length ∧ u = (blk, age, (m : Int) - 1, n, 0, 0, 0, 0, 0)) (fun u => some (jy n blk age (u.2.2.1 + 1).toNat)) ?_ (blk, age, (n.length : Int) - 1, n, 0, 0, 0, 0, 0) ⟨n.length, by omega, rfl⟩ (by simp; omega)).trans ?_
 ·rintro again u ⟨m, hm, rfl⟩ hag
  unfold kn
  cases m with
  | zero => rfl
  | succ m =>
   have e1 : ((m + 1 : Nat) : Int) - 1 = (m : Int) := by omega
   have hw : Go.IntKind.wrap .i64 ((m : Int) - 1) = (m : Int) - 1 := w64 (by omega) (by omega)
   have h0 : 0 ≤ (m : Int) := by omega
   have h1 : (m : Int) < (n.length : Int) := by omega
   have e := y2r (yn n (m : Int)) blk age (hs _ (yW yY n (m : Int) h0 h1))
   have hx : n.getD m yY = yn n (m : Int) := rfl
   rw [e1]
   simp only [Bool.cond_eq_ite, decide_eq_true_eq, ge_iff_le, h0, h1, if_true, Option.bind_some, hw, e]
   have e' := hag (blk, age, (m : Int) - 1, n, 0, 0, 0, 0, 0) ⟨m, by omega, rfl⟩ (by simp only; omega)
   rw [e', show ((m : Int) + 1).toNat = m + 1 by omega, jy, hx]
   simp only
   rw [show ((m : Int) - 1 + 1).toNat = m by omega]
   obtain ⟨r1, r2, r3, r4, r5, r6⟩ := Wo (yn n (m : Int)) blk age
   cases r6
   ·rfl
   ·cases h3 : (r3 == 0) <;> simp [h3, y5e]
 ·simp only
  rw [show ((n.length : Int) - 1 + 1).toNat = n.length by omega]
def YP (q : List Int) (t : List y0) (blk age : Int) : Ans :=
 if inR (Wa q (jX blk age) q.length) 0 ((t.length : Int) - 1) = true then jy (ye t (Wa q (jX blk age) q.length)) blk age (ye t (Wa q (jX blk age) q.length)).length else y5e
theorem Kz (q : List Int) (t : List y0) (blk age : Int) (ht : TOk t) (hq : q.length ≤ 1048576) : ju (q, t, blk, age) = some (YP q t blk age) := by
 unfold ju YP
 have hlen := ht.len
 rw [w64 (n := (t.length : Int) - 1) (by omega) (by omega)]
 simp only [y0u q t blk age hq, ZG, Option.bind_some]
 generalize Wa q (jX blk age) q.length = i
 by_cases h : inR i 0 ((t.length : Int) - 1) = true
 ·obtain ⟨h0, h1⟩ := zv.1 h
  have hmem : ye t i ∈ t := yW yf t i h0 (by omega)
  obtain ⟨a1, a2⟩ := ht.node hmem
  have e := y61 (ye t i) blk age a1 (fun s hs => by have := a2 s hs; omega)
  rw [h, if_pos h0, if_pos (by omega), e]
  rfl
 ·have : inR i 0 ((t.length : Int) - 1) = false := by simpa using h
  rw [this]
  rfl
theorem y1v (q : List Int) (t : List y0) (blk age : Int) (ht : TOk t) (hq : q.length ≤ 1048576) : wi (q, t, blk, age) = some (YP q t blk age) := by
 unfold wi YP
 have hlen := ht.len
 rw [w64 (n := (t.length : Int) - 1) (by omega) (by omega)]
 simp only [y0v q t blk age hq, jh, Option.bind_some]
 generalize Wa q (jX blk age) q.length = i
 by_cases h : inR i 0 ((t.length : Int) - 1) = true
 ·obtain ⟨h0, h1⟩ := zv.1 h
  have hmem : ye t i ∈ t := yW yf t i h0 (by omega)
  obtain ⟨a1, a2⟩ := ht.node hmem
  have e := y62 (ye t i) blk age a1 (fun s hs => by have := a2 s hs; omega)
  rw [h, if_pos h0, if_pos (by omega), e]
  rfl
 ·have : inR i 0 ((t.length : Int) - 1) = false := by simpa using h
  rw [this]
  rfl
end Go.Proofs.YtjllpipmaejeoaaGreat.Pl
namespace Go.Proofs.YtjllpipmaejeoaaGreat.Pl
open Go.Proofs.YtjllpipmaejeoaaGreat.R Go.Proofs.YtjllpipmaejeoaaGreat.XV
structure NS (n : List ya) : Prop where
 len : n.length ≤ 1000
 sum : kt qg n ≤ 1000
theorem NS.mem {n : List ya} (h : NS n) {s : ya} (hs : s ∈ n) : List.length s ≤ 1000 := by
 have h1 := (y0T Ke hs).1
 have h2 := h.sum
 have h3 : qg s = (List.length s : Int) := rfl
 omega
theorem NS.q {n : List ya} (h : NS n) : y3X n := ⟨Nat.le_trans h.len (by decide), fun b hb => Nat.le_trans (h.mem hb) (by decide)⟩
theorem NS.keys {n : List ya} (h : NS n) : (yz n).length ≤ 1000 := by
 have h1 := KK n
 have h2 := h.sum
 omega
def wk (n : List ya) : ya := n.getD (n.length - 1) yY
theorem y2s {n : List ya} (h : 0 < n.length) : wk n ∈ n := by
 unfold wk
 rw [yF _ _ _ (by omega)]
 exact List.getElem_mem _
def JR (n : List ya) (k : y7) : List ya :=
 if 0 < n.length ∧ (List.length (wk n) < 4 ∨ (Wo (wk n) k.1 k.2.1).2.2.2.2.2 = true) then n.set (n.length - 1) (Y1 (wk n) k) else n ++ [[k]]
def Yf (n : List ya) (k : y7) : List y7 := W8 (Y1 (yz n) k)
def zn (n : List ya) (k : y7) : List ya × Bool :=
 if YA (JR n k) = true then (JR n k, true) else if (Yf n k).length > 8 then (n, false) else if YA (yM (Yf n k)) = true then (yM (Yf n k), true) else (n, false)
theorem ygr (l : List y7) : (W8 l).length ≤ l.length := by
 have := y53 l []
 simpa [W8] using this
theorem y2t (n : List ya) (k : y7) : (Yf n k).length ≤ (yz n).length + 1 := by
 have h1 := ygr (Y1 (yz n) k)
 have h2 := Wm (yz n) k
 unfold Yf
 omega
theorem JS (l : List y7) (h : l.length ≤ 1048576) : yX l = some (yM l) := by
 unfold yX yM
 by_cases h0 : l.length = 0
 ·rw [if_pos h0, show (((List.length l : Nat) : Int) == 0) = true from beq_iff_eq.2 (by omega)]
  rfl
 ·rw [if_neg h0, show (((List.length l : Nat) : Int) == 0) = false from beq_eq_false_iff_ne.2 (by omega), cond_false, if_pos (by simp only [List.length_nil]; omega)]
  rfl
theorem kA (l : List y7) (h : l.length ≤ 1048576) : zC l = some (yM l) := by
 unfold zC yM
 by_cases h0 : l.length = 0
 ·rw [if_pos h0, show (((List.length l : Nat) : Int) == 0) = true from beq_iff_eq.2 (by omega)]
  rfl
 ·rw [if_neg h0, show (((List.length l : Nat) : Int) == 0) = false from beq_eq_false_iff_ne.2 (by omega), cond_false, v9 l h]
  rfl
theorem y0Z {l : List y7} (h : l.length ≤ 1000) : NS (yM l) := by
 unfold yM
 split
 ·exact ⟨by simp, by simp [kt]⟩
 ·exact ⟨by simp, by simp [kt, qg]; omega⟩
theorem y5f (l : List y7) : (yM l).length ≤ 1 ∧ kt qg (yM l) ≤ l.length := by
 unfold yM
 split
 ·exact ⟨by simp, by simp [kt]⟩
 ·exact ⟨by simp, by simp [kt, qg]⟩
theorem yn1 {n : List ya} (i : Nat) (s : ya) (hi : i < n.length) : kt qg (n.set i s) = kt qg n - qg (n.getD i yY) + qg s := by
 induction n generalizing i with
 | nil => simp at hi
 | cons a n ih =>
  cases i with
  | zero =>
   rw [List.set_cons_zero, Yj, Yj]
   simp
   omega
  | succ i =>
   rw [List.set_cons_succ, Yj, Yj, ih i (by simpa using hi), List.getD_cons_succ]
   omega
theorem ygs {A : Type} (w : A → Int) (l : List A) (a : A) : kt w (l ++ [a]) = kt w l + w a := by
 induction l with
 | nil => simp [kt]
 | cons b l ih =>
  rw [List.cons_append, Yj, Yj, ih]
  omega
theorem y33 (n : List ya) (k : y7) : (JR n k).length ≤ n.length + 1 ∧ kt qg (JR n k) ≤ kt qg n + 1 := by
 unfold JR
 split
 ·rename_i h
  have h1 := Wm (wk n) k
  have h2 : qg (Y1 (wk n) k) ≤ qg (wk n) + 1 := by
   unfold qg
   have : List.length (Y1 (wk n) k) ≤ List.length (wk n) + 1 := h1
   omega
  rw [List.length_set, yn1 _ _ (by omega)]
  have e : n.getD (n.length - 1) yY = wk n := rfl
  rw [e]
  constructor <;> omega
 ·rw [ygs, List.length_append]
  have e : qg [k] = 1 := rfl
  rw [e]
  exact ⟨Nat.le_refl _, Int.le_refl _⟩
theorem NS.small {n : List ya} (h1 : n.length ≤ 1001) (h2 : kt qg n ≤ 1001) : n.length ≤ 1073741824 ∧ ∀ s ∈ n, List.length s ≤ 1073741824 := by
 refine ⟨by omega, fun s hs => ?_⟩
 have h3 := (y0T Ke hs).1
 have h4 : qg s = (List.length s : Int) := rfl
 omega
section
variable (n : List ya) (a b c d e : Int) (h : NS n)
include h
theorem y5g : wF (n, a, b, c, d, e) = some (zn n (a, b, c, d, e)) := by
 have hk := h.keys
 have hl := h.len
 have hs := h.sum
 have hW := y2t n (a, b, c, d, e)
 have hN := y5f (Yf n (a, b, c, d, e))
 have hN2 := NS.small (n := yM (Yf n (a, b, c, d, e))) (by omega) (by omega)
 have hO := y33 n (a, b, c, d, e)
 have hO2 := NS.small (n := JR n (a, b, c, d, e)) (by omega) (by omega)
 have hw : Go.IntKind.wrap .i64 ((n.length : Int) - 1) = (n.length : Int) - 1 := w64 (by omega) (by omega)
 have hT : ∀ out, out = JR n (a, b, c, d, e) → (Option.bind (zz out) fun r6 => bif r6 then some (out, true) else Option.bind (yC n) fun r7 => Option.bind (zI (r7, a, b, c, d, e)) fun r8 => Option.bind (Y7 r8) fun r9 => bif (decide (((List.length r9 : Nat) : Int) > (8 : Int))) then some (n, false) else Option.bind (yX r9) fun r11 => Option.bind (zz r11) fun r12 => bif (!r12) then some (n, false) else Option.bind (yX r9) fun r14 => some (r14, true)) = some (zn n (a, b, c, d, e)) := by
  rintro out rfl
  have e1 : Y7 (Y1 (yz n) (a, b, c, d, e)) = some (Yf n (a, b, c, d, e)) := y0m _ (by have := Wm (yz n) (a, b, c, d, e); omega)
  simp only [VW _ hO2.1 hO2.2, Za n (by omega) (by omega), Kv (yz n) a b c d e (by omega), e1, JS (Yf n (a, b, c, d, e)) (by omega), VW _ hN2.1 hN2.2, Option.bind_some]
  unfold zn
  cases YA (JR n (a, b, c, d, e)) with
  | true => rfl
  | false =>
   by_cases h8 : (Yf n (a, b, c, d, e)).length > 8
   ·rw [decide_eq_true (show ((List.length (Yf n (a, b, c, d, e)) : Nat) : Int) > 8 by omega), if_pos h8]
    rfl
   ·rw [decide_eq_false (show ¬ ((List.length (Yf n (a, b, c, d, e)) : Nat) : Int) > 8 by omega), if_neg h8]
    cases YA (yM (Yf n (a, b, c, d, e))) <;> rfl
 unfold wF
 simp only [qa n h.q, Option.bind_some, hw]
 by_cases h0 : n.length = 0
 ·have e1 : ¬ (0 < n.length ∧ (List.length (wk n) < 4 ∨ (Wo (wk n) a b).2.2.2.2.2 = true)) := fun hh => by omega
  simp only [decide_eq_false (show ¬ ((n.length : Int) - 1 ≥ 0) by omega), cond_false, Option.bind_some]
  rw [if_pos (by simp only [List.length_cons, List.length_nil]; omega)]
  exact hT _ (by unfold JR; rw [if_neg e1])
 ·have i0 : 0 ≤ (n.length : Int) - 1 := by omega
  have i1 : (n.length : Int) - 1 < ((List.length n : Nat) : Int) := by omega
  have hlm := h.mem (y2s (n := n) (by omega))
  have erd : yn n ((n.length : Int) - 1) = wk n := by
   show n.getD ((n.length : Int) - 1).toNat yY = n.getD (n.length - 1) yY
   congr 1
   omega
  have etn : ((n.length : Int) - 1).toNat = n.length - 1 := by omega
  rw [decide_eq_true (show (n.length : Int) - 1 ≥ 0 from i0)]
  simp only [cond_true, i0, i1, if_true, erd, etn, y2q (wk n) a b (by omega), Kv (wk n) a b c d e (by omega), Option.bind_some]
  by_cases h4 : List.length (wk n) < 4
  ·rw [decide_eq_true (show ((List.length (wk n) : Nat) : Int) < 4 by omega)]
   exact hT _ (by unfold JR; rw [if_pos ⟨by omega, .inl h4⟩])
  ·rw [decide_eq_false (show ¬ ((List.length (wk n) : Nat) : Int) < 4 by omega)]
   cases hA : (Wo (wk n) a b).2.2.2.2.2 with
   | true => exact hT _ (by unfold JR; rw [if_pos ⟨by omega, .inr hA⟩])
   | false =>
    simp only [cond_false, Option.bind_some]
    rw [if_pos (by simp only [List.length_cons, List.length_nil]; omega)]
    exact hT _ (by
     unfold JR
     rw [if_neg fun hh => ?_]
     rcases hh.2 with hh | hh
     ·exact h4 hh
     ·rw [hA] at hh
      cases hh)
theorem Qx : zY (n, a, b, c, d, e) = some (Yf n (a, b, c, d, e)) := by
 have hk := h.keys
 have hl := h.len
 have hs := h.sum
 have e1 : JC (Y1 (yz n) (a, b, c, d, e)) = some (Yf n (a, b, c, d, e)) := y3w _ (by have := Wm (yz n) (a, b, c, d, e); omega)
 unfold zY
 simp only [jT n (by omega) (by omega), VV (yz n) a b c d e (by omega), e1, Option.bind_some]
theorem y5h : wP (n, a, b, c, d, e) = some (zn n (a, b, c, d, e)) := by
 have hk := h.keys
 have hl := h.len
 have hs := h.sum
 have hW := y2t n (a, b, c, d, e)
 have hN := y5f (Yf n (a, b, c, d, e))
 have hN2 := NS.small (n := yM (Yf n (a, b, c, d, e))) (by omega) (by omega)
 have hO := y33 n (a, b, c, d, e)
 have hO2 := NS.small (n := JR n (a, b, c, d, e)) (by omega) (by omega)
 have hw : Go.IntKind.wrap .i64 ((n.length : Int) - 1) = (n.length : Int) - 1 := w64 (by omega) (by omega)
 have hT : ∀ out, out = JR n (a, b, c, d, e) → (Option.bind (zM out) fun r5 => bif r5 then some (out, true) else Option.bind (zY (n, a, b, c, d, e)) fun r6 => Option.bind (zC r6) fun r7 => Option.bind (bif (decide (((List.length r6 : Nat) : Int) > (8 : Int))) then some true else Option.bind (zM r7) fun r9 => some (!r9)) fun u8 => bif u8 then some (n, false) else some (r7, true)) = some (zn n (a, b, c, d, e)) := by
  rintro out rfl
  simp only [VX _ hO2.1 hO2.2, Qx n a b c d e h, kA (Yf n (a, b, c, d, e)) (by omega), VX _ hN2.1 hN2.2, Option.bind_some]
  unfold zn
  cases YA (JR n (a, b, c, d, e)) with
  | true => rfl
  | false =>
   by_cases h8 : (Yf n (a, b, c, d, e)).length > 8
   ·rw [decide_eq_true (show ((List.length (Yf n (a, b, c, d, e)) : Nat) : Int) > 8 by omega), if_pos h8]
    rfl
   ·rw [decide_eq_false (show ¬ ((List.length (Yf n (a, b, c, d, e)) : Nat) : Int) > 8 by omega), if_neg h8]
    cases YA (yM (Yf n (a, b, c, d, e))) <;> rfl
 unfold wP
 simp only [va n h.q, Option.bind_some, hw]
 by_cases h0 : n.length = 0
 ·have e1 : ¬ (0 < n.length ∧ (List.length (wk n) < 4 ∨ (Wo (wk n) a b).2.2.2.2.2 = true)) := fun hh => by omega
  simp only [decide_eq_false (show ¬ ((n.length : Int) - 1 ≥ 0) by omega), cond_false, Option.bind_some]
  rw [if_pos (by simp only [List.length_cons, List.length_nil]; omega)]
  exact hT _ (by unfold JR; rw [if_neg e1])
 ·have i0 : 0 ≤ (n.length : Int) - 1 := by omega
  have i1 : (n.length : Int) - 1 < ((List.length n : Nat) : Int) := by omega
  have hlm := h.mem (y2s (n := n) (by omega))
  have erd : yn n ((n.length : Int) - 1) = wk n := by
   show n.getD ((n.length : Int) - 1).toNat yY = n.getD (n.length - 1) yY
   congr 1
   omega
  have etn : ((n.length : Int) - 1).toNat = n.length - 1 := by omega
  rw [decide_eq_true (show (n.length : Int) - 1 ≥ 0 from i0)]
  simp only [cond_true, i0, i1, if_true, erd, etn, y2r (wk n) a b (by omega), VV (wk n) a b c d e (by omega), Option.bind_some]
  cases hA : (Wo (wk n) a b).2.2.2.2.2 with
  | true => exact hT _ (by unfold JR; rw [if_pos ⟨by omega, .inr hA⟩])
  | false =>
   by_cases h4 : List.length (wk n) < 4
   ·rw [decide_eq_true (show ((List.length (wk n) : Nat) : Int) < 4 by omega)]
    exact hT _ (by unfold JR; rw [if_pos ⟨by omega, .inl h4⟩])
   ·rw [decide_eq_false (show ¬ ((List.length (wk n) : Nat) : Int) < 4 by omega)]
    simp only [cond_false, Option.bind_some]
    rw [if_pos (by simp only [List.length_cons, List.length_nil]; omega)]
    exact hT _ (by
     unfold JR
     rw [if_neg fun hh => ?_]
     rcases hh.2 with hh | hh
     ·exact h4 hh
     ·rw [hA] at hh
      cases hh)
end
end Go.Proofs.YtjllpipmaejeoaaGreat.Pl
namespace Go.Proofs.YtjllpipmaejeoaaGreat.Pl
open Go.Proofs.YtjllpipmaejeoaaGreat.R Go.Proofs.YtjllpipmaejeoaaGreat.XV
structure TS (t : List y0) : Prop where
 len : t.length ≤ 100
 node : ∀ n ∈ t, NS n
theorem TS.ok {t : List y0} (h : TS t) : TOk t := by
 have hl := h.len
 refine ⟨by omega, fun n hn => Nat.le_trans (h.node n hn).len (by decide), ?_⟩
 have hb : ∀ (t : List y0), (∀ n ∈ t, NS n) → kt Qz t ≤ 2000 * t.length := by
  intro t
  induction t with
  | nil => intro _; simp [kt]
  | cons a t ih =>
   intro hn
   have h1 := ih fun n h => hn n (by simp [h])
   have h2 := hn a (by simp)
   have h3 : Qz a = (List.length a : Int) + kt qg a := rfl
   have h4 : List.length a ≤ 1000 := h2.len
   have h5 : kt qg a ≤ 1000 := h2.sum
   rw [Yj, List.length_cons]
   omega
 have := hb t h.node
 omega
def yZ {A : Type} (l : List A) (i c : Nat) (m : List A) : List A := l.take i ++ m ++ l.drop (i + c)
theorem YC {A : Type} (l : List A) (i c : Nat) (m : List A) (h : i + c ≤ l.length) : (yZ l i c m).length = l.length + m.length - c := by
 unfold yZ
 simp only [List.length_append, List.length_take, List.length_drop]
 omega
theorem yeu {A : Type} {l : List A} {i c : Nat} {m : List A} {x : A} (h : x ∈ yZ l i c m) : x ∈ l ∨ x ∈ m := by
 unfold yZ at h
 rcases List.mem_append.1 h with h | h
 ·rcases List.mem_append.1 h with h | h
  ·exact .inl (List.mem_of_mem_take h)
  ·exact .inr h
 ·exact .inl (List.mem_of_mem_drop h)
theorem y10 {A : Type} (l : List A) (i : Nat) (x : A) (h : i < l.length) : yZ l i 1 [x] = l.set i x := by
 unfold yZ
 rw [List.set_eq_take_append_cons_drop, if_pos h]
 simp
theorem yev {A : Type} (d : A) (l : List A) (i : Nat) (h : i + 2 ≤ l.length) : yZ l i 2 [l.getD i d] = l.take (i + 1) ++ l.drop (i + 2) := by
 unfold yZ
 rw [yF _ _ _ (by omega), List.take_succ_eq_append_getElem (by omega)]
theorem TS.splice {t : List y0} (h : TS t) {i c : Nat} {m : List y0} (hl : (yZ t i c m).length ≤ 100) (hm : ∀ n ∈ m, NS n) : TS (yZ t i c m) :=
 ⟨hl, fun n hn => (yeu hn).elim (h.node n) (hm n)⟩
theorem Q2 (q : List Int) (t : List y0) (i : Int) (ql : List Int) (tl : List y0) (h0 : 0 ≤ i) (h1 : i < (q.length : Int)) (h2 : i < (t.length : Int)) (hq : q.length ≤ 1000) (ht : t.length ≤ 1000) (hql : ql.length ≤ 1000) (htl : tl.length ≤ 1000) :
  Jo (q, t, i, ql, tl) = some (yZ q i.toNat 1 ql, yZ t i.toNat 1 tl) := by
 have hw : Go.IntKind.wrap .i64 (i + 1) = i + 1 := w64 (by omega) (by omega)
 have e1 : (i + 1).toNat = i.toNat + 1 := by omega
 unfold Jo
 simp only [hw]
 iterate 18 rw [if_pos (by first | omega | (simp only [List.length_append, List.length_drop, List.length_take, List.length_nil]; omega))]
 simp [yZ, e1]
theorem vb (q : List Int) (t : List y0) (i c : Int) (ql : List Int) (tl : List y0) (h0 : 0 ≤ i) (hc : 0 ≤ c) (h1 : i + c ≤ (q.length : Int)) (h2 : i + c ≤ (t.length : Int)) (hq : q.length ≤ 1000) (ht : t.length ≤ 1000) (hql : ql.length ≤ 1000) (htl : tl.length ≤ 1000) :
  Yc (q, t, i, c, ql, tl) = some (yZ q i.toNat c.toNat ql, yZ t i.toNat c.toNat tl) := by
 have hw : Go.IntKind.wrap .i64 (i + c) = i + c := w64 (by omega) (by omega)
 have e1 : (i + c).toNat = i.toNat + c.toNat := by omega
 have e2 : List.drop (Int.toNat 0) (List.take (Int.toNat i) q) = q.take i.toNat := rfl
 unfold Yc
 simp only [hw]
 iterate 3 rw [if_pos (by omega)]
 rw [e2, Qv _ (by rw [List.length_take]; omega)]
 simp only [Option.bind_some]
 iterate 14 rw [if_pos (by first | omega | (simp only [List.length_append, List.length_drop, List.length_take, List.length_nil]; omega))]
 simp [yZ, e1]
def yD : List y0 → Int → Int
 | a :: b :: r, i => if (yz a).length + (yz b).length ≤ 6 then i else yD (b :: r) (i + 1)
 | _, _ => -1
theorem y1K (l : List y0) (i : Int) (h : l.length ≤ 1) : yD l i = -1 := by
 match l, h with
 | [], _ => rfl
 | [_], _ => rfl
theorem y34 : ∀ (l : List y0) (i : Int), yD l i = -1 ∨ i ≤ yD l i ∧ yD l i + 2 ≤ i + l.length ∧ (yz (l.getD (yD l i - i).toNat yf)).length + (yz (l.getD (yD l i - i + 1).toNat yf)).length ≤ 6
 | [], _ => .inl rfl
 | [_], _ => .inl rfl
 | a :: b :: r, i => by
  rw [yD]
  by_cases h : (yz a).length + (yz b).length ≤ 6
  ·rw [if_pos h]
   refine .inr ⟨Int.le_refl _, by simp only [List.length_cons]; omega, ?_⟩
   rw [show (i - i).toNat = 0 by omega, show (i - i + 1).toNat = 1 by omega]
   exact h
  ·rw [if_neg h]
   rcases y34 (b :: r) (i + 1) with h1 | ⟨h1, h2, h3⟩
   ·exact .inl h1
   ·refine .inr ⟨by omega, by simp only [List.length_cons] at h2 ⊢; omega, ?_⟩
    rw [show (yD (b :: r) (i + 1) - i).toNat = (yD (b :: r) (i + 1) - (i + 1)).toNat + 1 by omega, show (yD (b :: r) (i + 1) - i + 1).toNat = (yD (b :: r) (i + 1) - (i + 1) + 1).toNat + 1 by omega, List.getD_cons_succ, List.getD_cons_succ]
    exact h3
theorem ydj (t : List y0) (i : Int) (h0 : 0 ≤ i) (h1 : i + 1 < (t.length : Int)) : yD (t.drop i.toNat) i = if (yz (ye t i)).length + (yz (ye t (i + 1))).length ≤ 6 then i else yD (t.drop (i + 1).toNat) (i + 1) := by
 rw [JO yf t i h0 (by omega), JO yf t (i + 1) (by omega) h1, yD]
 rfl
theorem nk {t : List y0} (h : TS t) {i : Int} (h0 : 0 ≤ i) (h1 : i < (t.length : Int)) : NS (ye t i) := h.node _ (yW yf t i h0 h1)
theorem Vk {t : List y0} (h : TS t) {i : Int} (h0 : 0 ≤ i) (h1 : i < (t.length : Int)) : yC (ye t i) = some (yz (ye t i)) := by
 have hn := nk h h0 h1
 exact Za _ (Nat.le_trans hn.len (by decide)) (Int.le_trans hn.sum (by decide))
theorem y5i {t : List y0} (h : TS t) {i : Int} (h0 : 0 ≤ i) (h1 : i < (t.length : Int)) : yR (ye t i) = some (yz (ye t i)) := by
 have hn := nk h h0 h1
 exact jT _ (Nat.le_trans hn.len (by decide)) (Int.le_trans hn.sum (by decide))
theorem y3B (q : List Int) (t : List y0) (h : TS t) : w8 (q, t) = some (yD t 0) := by
 have hl := h.len
 unfold w8 QY
 refine Zv (step := WK _ _) (fun x : Int × List Int × List y0 => t.length - x.1.toNat) (fun x => x.2.2 = t ∧ 0 ≤ x.1 ∧ x.1 ≤ (t.length : Int)) (fun x => some (yD (t.drop x.1.toNat) x.1)) ?_ (0, q, t) ⟨rfl, Int.le_refl _, by simp⟩ (by simp; omega)
 rintro again ⟨i, q', t'⟩ ⟨rfl, i0, i1⟩ hag
 simp only at i0 i1 hl h ⊢
 unfold WK
 by_cases hi : i + 1 < (t'.length : Int)
 ·have hw : Go.IntKind.wrap .i64 (i + 1) = i + 1 := w64 (by omega) (by omega)
  have k1 := nk h i0 (show i < (t'.length : Int) by omega)
  have k2 := nk h (show 0 ≤ i + 1 by omega) hi
  have hw2 : Go.IntKind.wrap .i64 (((List.length (yz (ye t' i)) : Nat) : Int) + ((List.length (yz (ye t' (i + 1))) : Nat) : Int)) = ((List.length (yz (ye t' i)) : Nat) : Int) + ((List.length (yz (ye t' (i + 1))) : Nat) : Int) := w64 (by omega) (by have := k1.keys; have := k2.keys; omega)
  simp only [hw, Vk h i0 (show i < (t'.length : Int) by omega), Vk h (show 0 ≤ i + 1 by omega) hi, Option.bind_some, hw2]
  rw [decide_eq_true hi, cond_true, if_pos i0, if_pos (by omega), if_pos (by omega), if_pos hi, ydj t' i i0 hi]
  by_cases h6 : (yz (ye t' i)).length + (yz (ye t' (i + 1))).length ≤ 6
  ·rw [decide_eq_true (show ((List.length (yz (ye t' i)) : Nat) : Int) + ((List.length (yz (ye t' (i + 1))) : Nat) : Int) ≤ 6 by omega), if_pos h6]
   rfl
  ·rw [decide_eq_false (show ¬ ((List.length (yz (ye t' i)) : Nat) : Int) + ((List.length (yz (ye t' (i + 1))) : Nat) : Int) ≤ 6 by omega), if_neg h6]
   exact hag _ ⟨rfl, by simp only; omega, by simp only; omega⟩ (by simp only; omega)
 ·have hw : ¬ Go.IntKind.wrap .i64 (i + 1) < (t'.length : Int) := by
   rw [w64 (by omega) (by omega)]
   exact hi
  rw [decide_eq_false hw, y1K _ _ (by rw [List.length_drop]; omega)]
  rfl
def jk : Nat → List Int → List y0 → List Int × List y0
 | 0, q, t => (q, t)
 | m + 1, q, t => if yD t 0 < 0 then (q, t) else jk m (yZ q (yD t 0).toNat 2 [q.getD (yD t 0).toNat 0]) (yZ t (yD t 0).toNat 2 [yM (yz (t.getD (yD t 0).toNat yf) ++ yz (t.getD (yD t 0 + 1).toNat yf))])
section
variable {q : List Int} {t : List y0} (h : TS t) (hq : q.length = t.length) (hp : ¬ yD t 0 < 0)
include h hp
omit h in
theorem y35 : 0 ≤ yD t 0 ∧ yD t 0 + 2 ≤ (t.length : Int) ∧ (yz (ye t (yD t 0))).length + (yz (ye t (yD t 0 + 1))).length ≤ 6 := by
 rcases y34 t 0 with h1 | ⟨h1, h2, h3⟩
 ·omega
 ·refine ⟨h1, by omega, ?_⟩
  rw [Int.sub_zero] at h3
  exact h3
theorem ycg : TS (yZ t (yD t 0).toNat 2 [yM (yz (ye t (yD t 0)) ++ yz (ye t (yD t 0 + 1)))]) := by
 obtain ⟨h1, h2, h3⟩ := y35 hp
 have hl := h.len
 refine h.splice (by rw [YC _ _ _ _ (by omega)]; simp only [List.length_cons, List.length_nil]; omega) fun n hn => ?_
 obtain rfl := List.mem_singleton.1 hn
 exact y0Z (by rw [List.length_append]; omega)
include hq
theorem ydk : (yZ t (yD t 0).toNat 2 [yM (yz (ye t (yD t 0)) ++ yz (ye t (yD t 0 + 1)))]).length = t.length - 1 ∧ (yZ q (yD t 0).toNat 2 [q.getD (yD t 0).toNat 0]).length = t.length - 1 := by
 obtain ⟨h1, h2, h3⟩ := y35 hp
 rw [YC _ _ _ _ (by omega), YC _ _ _ _ (by omega)]
 simp only [List.length_cons, List.length_nil]
 omega
theorem y6P : jk t.length q t = jk (t.length - 1) (yZ q (yD t 0).toNat 2 [q.getD (yD t 0).toNat 0]) (yZ t (yD t 0).toNat 2 [yM (yz (ye t (yD t 0)) ++ yz (ye t (yD t 0 + 1)))]) := by
 obtain ⟨h1, h2, h3⟩ := y35 hp
 rw [show t.length = (t.length - 1) + 1 by omega, jk, if_neg hp]
 rfl
end
theorem yai {q : List Int} {t : List y0} (m : Nat) (hp : yD t 0 < 0) : jk m q t = (q, t) := by
 cases m with
 | zero => rfl
 | succ m => rw [jk, if_pos hp]
theorem yaj (q : List Int) (t : List y0) (h : TS t) (hq : q.length = t.length) : Zg (q, t) = some (jk t.length q t) := by
 have hl := h.len
 unfold Zg QZ
 simp only [y3B q t h, Option.bind_some]
 refine Zv (step := WL _) (fun x : Int × List Int × List y0 => x.2.2.length) (fun x => TS x.2.2 ∧ x.2.1.length = x.2.2.length ∧ x.1 = yD x.2.2 0) (fun x => some (jk x.2.2.length x.2.1 x.2.2)) ?_ (yD t 0, q, t) ⟨h, hq, rfl⟩ (by simp only; omega)
 rintro again ⟨i, q, t⟩ ⟨h, hq, hi⟩ hag
 simp only at h hq hi ⊢
 subst hi
 have hl := h.len
 unfold WL
 by_cases hp : yD t 0 < 0
 ·rw [decide_eq_false (show ¬ yD t 0 ≥ 0 by omega), yai _ hp]
  rfl
 ·obtain ⟨h1, h2, h3⟩ := y35 hp
  have hw : Go.IntKind.wrap .i64 (yD t 0 + 1) = yD t 0 + 1 := w64 (by omega) (by omega)
  have hw2 : Go.IntKind.wrap .i64 (yD t 0 + 2) = yD t 0 + 2 := w64 (by omega) (by omega)
  have hT := ycg h hp
  have hL := ydk h hq hp
  have eq1 : ([] ++ List.drop (Int.toNat 0) (List.take (Int.toNat (yD t 0 + 1)) q)) ++ List.drop (Int.toNat (yD t 0 + 2)) (List.take (Int.toNat (q.length : Int)) q) = yZ q (yD t 0).toNat 2 [q.getD (yD t 0).toNat 0] := by
   rw [yev 0 q _ (by omega), show (yD t 0 + 1).toNat = (yD t 0).toNat + 1 by omega, show (yD t 0 + 2).toNat = (yD t 0).toNat + 2 by omega]
   simp
  have eq2 : ∀ n : y0, (([] ++ List.drop (Int.toNat 0) (List.take (Int.toNat (yD t 0)) t)) ++ [n]) ++ List.drop (Int.toNat (yD t 0 + 2)) (List.take (Int.toNat (t.length : Int)) t) = yZ t (yD t 0).toNat 2 [n] := fun n => by
   rw [show (yD t 0 + 2).toNat = (yD t 0).toNat + 2 by omega]
   simp [yZ]
  simp only [hw, hw2, Vk h h1 (show yD t 0 < (t.length : Int) by omega), Vk h (show 0 ≤ yD t 0 + 1 by omega) (show yD t 0 + 1 < (t.length : Int) by omega), JS (yz (ye t (yD t 0)) ++ yz (ye t (yD t 0 + 1))) (by rw [List.length_append]; omega), Option.bind_some, eq1, eq2, y3B _ _ hT]
  rw [decide_eq_true (show yD t 0 ≥ 0 from h1), cond_true]
  iterate 22 rw [if_pos (by first | omega | (simp only [List.length_append, List.length_drop, List.length_take, List.length_nil, List.length_cons]; omega))]
  rw [y6P h hq hp, ← hL.1]
  exact hag (yD (yZ t (yD t 0).toNat 2 [yM (yz (ye t (yD t 0)) ++ yz (ye t (yD t 0 + 1)))]) 0, yZ q (yD t 0).toNat 2 [q.getD (yD t 0).toNat 0], yZ t (yD t 0).toNat 2 [yM (yz (ye t (yD t 0)) ++ yz (ye t (yD t 0 + 1)))]) ⟨hT, hL.2.trans hL.1.symm, rfl⟩ (by simp only; omega)
theorem y63 (q : List Int) (t : List y0) (h : TS t) (hq : q.length = t.length) : Zt (q, t) = some (jk t.length q t) := by
 have hl := h.len
 unfold Zt y0i
 have key : ∀ (i : Int) (q : List Int) (t : List y0) (k1 k2 : Int × List Int × List y0 → Option (List Int × List y0)), TS t → q.length = t.length → 0 ≤ i → i ≤ (t.length : Int) → yD t 0 = yD (t.drop i.toNat) i →
   (∀ i' q' t', TS t' → q'.length = t'.length → 0 ≤ i' → i' ≤ (t'.length : Int) → yD t' 0 = yD (t'.drop i'.toNat) i' → t'.length * 1000 + (t'.length - i'.toNat) < t.length * 1000 + (t.length - i.toNat) → k1 (i', q', t') = some (jk t'.length q' t') ∧ k2 (i', q', t') = some (jk t'.length q' t')) →
   (bif (decide ((Go.IntKind.wrap .i64 (i + (1 : Int))) < ((List.length t : Nat) : Int))) then if (0 : Int) ≤ i then if i < ((List.length t : Nat) : Int) then Option.bind (yR (ye t i)) fun r5 => if (0 : Int) ≤ (Go.IntKind.wrap .i64 (i + (1 : Int))) then if (Go.IntKind.wrap .i64 (i + (1 : Int))) < ((List.length t : Nat) : Int) then Option.bind (yR (ye t (Go.IntKind.wrap .i64 (i + (1 : Int))))) fun r6 => if (List.length r5 + List.length r6) * 40 < 140737488355328 then bif (decide (((List.length (r5 ++ r6) : Nat) : Int) ≤ (6 : Int))) then if (0 : Int) ≤ i then if i < ((List.length q : Nat) : Int) then Option.bind (zC (r5 ++ r6)) fun r7 => Option.bind (Yc (q, t, i, (2 : Int), ([(zt q i)] : List yb), ([r7] : List y0))) fun r8 => k1 ((Go.IntKind.wrap .i64 ((-1 : Int) + (1 : Int))), r8.1, r8.2) else none else none else k2 ((Go.IntKind.wrap .i64 (i + (1 : Int))), q, t) else none else none else none else none else none else some (q, t)) = some (jk t.length q t) := by
  intro i q t k1 k2 h hq i0 i1 hpi hk
  have hl := h.len
  have hw : Go.IntKind.wrap .i64 (i + 1) = i + 1 := w64 (by omega) (by omega)
  have hw0 : Go.IntKind.wrap .i64 (-1 + 1) = 0 := rfl
  simp only [hw, hw0]
  by_cases hi : i + 1 < (t.length : Int)
  ·have g1 := (nk h i0 (show i < (t.length : Int) by omega)).keys
   have g2 := (nk h (show 0 ≤ i + 1 by omega) hi).keys
   rw [ydj t i i0 hi] at hpi
   simp only [y5i h i0 (show i < (t.length : Int) by omega), y5i h (show 0 ≤ i + 1 by omega) hi, Option.bind_some]
   rw [decide_eq_true hi, cond_true, if_pos i0, if_pos (by omega), if_pos (by omega), if_pos hi, if_pos (by omega)]
   by_cases h6 : (yz (ye t i)).length + (yz (ye t (i + 1))).length ≤ 6
   ·rw [if_pos h6] at hpi
    subst hpi
    have hp : ¬ yD t 0 < 0 := by omega
    have hT := ycg h hp
    have hL := ydk h hq hp
    rw [decide_eq_true (show ((List.length (yz (ye t (yD t 0)) ++ yz (ye t (yD t 0 + 1))) : Nat) : Int) ≤ 6 by rw [List.length_append]; omega), cond_true, if_pos i0, if_pos (by omega), kA _ (by rw [List.length_append]; omega)]
    simp only [Option.bind_some]
    rw [vb q t _ 2 _ _ i0 (by decide) (by omega) (by omega) (by omega) (by omega) (by simp) (by simp)]
    simp only [Option.bind_some]
    rw [y6P h hq hp, ← hL.1]
    exact (hk 0 (yZ q (yD t 0).toNat 2 [q.getD (yD t 0).toNat 0]) (yZ t (yD t 0).toNat 2 [yM (yz (ye t (yD t 0)) ++ yz (ye t (yD t 0 + 1)))]) hT (hL.2.trans hL.1.symm) (Int.le_refl _) (by omega) rfl (by omega)).1
   ·rw [if_neg h6] at hpi
    rw [decide_eq_false (show ¬ ((List.length (yz (ye t i) ++ yz (ye t (i + 1))) : Nat) : Int) ≤ 6 by rw [List.length_append]; omega), cond_false]
    exact (hk (i + 1) q t h hq (by omega) (by omega) hpi (by omega)).2
  ·rw [y1K (t.drop i.toNat) i (by rw [List.length_drop]; omega)] at hpi
   rw [decide_eq_false hi, yai _ (by omega)]
   rfl
 refine Zv (step := Vh _ _) (fun x : (Int × List Int × List y0) ⊕ (Int × List Int × List y0) => (Sum.elim id id x).2.2.length * 1000 + ((Sum.elim id id x).2.2.length - (Sum.elim id id x).1.toNat)) (fun x => TS (Sum.elim id id x).2.2 ∧ (Sum.elim id id x).2.1.length = (Sum.elim id id x).2.2.length ∧ 0 ≤ (Sum.elim id id x).1 ∧ (Sum.elim id id x).1 ≤ ((Sum.elim id id x).2.2.length : Int) ∧ yD (Sum.elim id id x).2.2 0 = yD ((Sum.elim id id x).2.2.drop (Sum.elim id id x).1.toNat) (Sum.elim id id x).1)
  (fun x => some (jk (Sum.elim id id x).2.2.length (Sum.elim id id x).2.1 (Sum.elim id id x).2.2)) ?_ (Sum.inl (0, q, t)) ⟨h, hq, Int.le_refl _, by simp, rfl⟩ (by simp; omega)
 rintro again (⟨i, q, t⟩ | ⟨i, q, t⟩) ⟨h, hq, i0, i1, hpi⟩ hag
 ·exact key i q t (fun x => again (Sum.inr x)) (fun x => again (Sum.inl x)) h hq i0 i1 hpi fun i' q' t' a1 a2 a3 a4 a5 a6 => ⟨hag (Sum.inr (i', q', t')) ⟨a1, a2, a3, a4, a5⟩ a6, hag (Sum.inl (i', q', t')) ⟨a1, a2, a3, a4, a5⟩ a6⟩
 ·exact key i q t (fun x => again (Sum.inr x)) (fun x => again (Sum.inr x)) h hq i0 i1 hpi fun i' q' t' a1 a2 a3 a4 a5 a6 => ⟨hag (Sum.inr (i', q', t')) ⟨a1, a2, a3, a4, a5⟩ a6, hag (Sum.inr (i', q', t')) ⟨a1, a2, a3, a4, a5⟩ a6⟩
end Go.Proofs.YtjllpipmaejeoaaGreat.Pl
namespace Go.Proofs.YtjllpipmaejeoaaGreat.Pl
open Go.Proofs.YtjllpipmaejeoaaGreat.R Go.Proofs.YtjllpipmaejeoaaGreat.XV
theorem ydl : ∀ (n : List ya) (s : Int), 0 ≤ s → s + 60 * n.length ≤ 1000 → (∀ a ∈ n, List.length a ≤ 60) → n.foldl y1p s = s + kt qg n
 | [], s, _, _, _ => by simp [kt]
 | a :: n, s, h0, hb, ha => by
  have h1 := ha a (by simp)
  rw [List.length_cons] at hb
  have hw : y1p s a = s + (List.length a : Int) := w64 (by omega) (by omega)
  have e : qg a = (List.length a : Int) := rfl
  rw [List.foldl_cons, hw, ydl n _ (by omega) (by omega) fun b hm => ha b (by simp [hm]), Yj, e]
  omega
theorem wl {n : List ya} (h : YA n = true) : n.length ≤ 3 ∧ kt qg n ≤ 8 ∧ ∀ s ∈ n, ∀ k ∈ (show List y7 from s), zR k = true := by
 obtain ⟨h1, h2⟩ := y2o h
 have h3 := ydl n 0 (Int.le_refl _) (by omega) fun a ha => (y4m (h2 a ha)).1
 unfold YA at h
 simp only [Bool.and_eq_true, decide_eq_true_eq] at h
 exact ⟨h1, by omega, fun s hs => (y4m (h2 s hs)).2⟩
theorem y2u {n : List ya} (h : YA n = true) : NS n := ⟨by have := (wl h).1; omega, by have := (wl h).2.1; omega⟩
theorem y2v {q : List Int} {t : List y0} (h : z6 q t = true) : TS t := by
 obtain ⟨h1, h2, h3, h4⟩ := jW h
 exact ⟨by omega, fun n hn => y2u (h4 n hn)⟩
theorem ych {q : List Int} {t : List y0} (h : z6 q t = true) : q.getD 0 0 = 0 := by
 unfold z6 at h
 simp only [Bool.and_eq_true, beq_iff_eq] at h
 exact h.2.2.1
theorem y3C (q : List Int) (sp : Int) (h : q.getD 0 0 ≤ sp) : ∀ n, 0 ≤ Wa q sp (n + 1)
 | 0 => by
  rw [Wa, if_pos h]
  simp
 | n + 1 => by
  rw [Wa]
  split
  ·omega
  ·exact y3C q sp h n
theorem yis {k : y7} (h : zR k = true) : 0 ≤ jX k.1 k.2.1 := by
 unfold zR at h
 simp only [Bool.and_eq_true, zv] at h
 obtain ⟨h1, h2, _⟩ := h
 unfold jX
 rw [w64 (n := (64 : Int) * k.1) (by omega) (by omega), w64 (by omega) (by omega)]
 omega
theorem yit {n : List ya} {k : y7} (hn : YA n = true) (hk : zR k = true) (h : (zn n k).2 = false) : 8 < (Yf n k).length := by
 unfold zn at h
 split at h
 ·cases h
 ·split at h
  ·assumption
  ·rename_i h8
   have hok : YA (yM (Yf n k)) = true := y32 (KM (wj k (KN n))) (fun x hx => by
    rcases y0Y (y5c hx) with rfl | hx
    ·exact hk
    ·obtain ⟨c, hc, hx⟩ := y0r hx
     exact (wl hn).2.2 c hc x hx) (by omega)
   rw [if_pos hok] at h
   cases h
theorem y36 {n : List ya} (k : y7) (h : NS n) (h2 : n.length ≤ 900 ∧ kt qg n ≤ 900) : NS (zn n k).1 := by
 have h1 := y33 n k
 have h3 := y2t n k
 have h4 := KK n
 unfold zn
 split
 ·exact ⟨by simp only; omega, by simp only; omega⟩
 ·split
  ·exact h
  ·split
   ·exact y0Z (by omega)
   ·exact h
def z5 (q : List Int) (k : y7) : Nat := (Wa q (jX k.1 k.2.1) q.length).toNat
def Wb (l : List y7) : Nat := (l.length + 1) / 2
def yt (q : List Int) (t : List y0) (k : y7) : List Int × List y0 :=
 if (zn (t.getD (z5 q k) yf) k).2 = false then
  (yZ q (z5 q k) 1 [q.getD (z5 q k) 0, Jb ((Yf (t.getD (z5 q k) yf) k).getD (Wb (Yf (t.getD (z5 q k) yf) k)) yH)],
   yZ t (z5 q k) 1 [yM ((Yf (t.getD (z5 q k) yf) k).take (Wb (Yf (t.getD (z5 q k) yf) k))), yM ((Yf (t.getD (z5 q k) yf) k).drop (Wb (Yf (t.getD (z5 q k) yf) k)))])
 else if 0 < z5 q k ∧ (yz (zn (t.getD (z5 q k) yf) k).1).length = 0 then (yZ q (z5 q k) 1 [], yZ t (z5 q k) 1 [])
 else (q, t.set (z5 q k) (zn (t.getD (z5 q k) yf) k).1)
def yk (q : List Int) (t : List y0) (k : y7) : List Int × List y0 × Bool :=
 if (z6 q t && zR k) = true then
  (if z6 (jk (yt q t k).2.length (yt q t k).1 (yt q t k).2).1 (jk (yt q t k).2.length (yt q t k).1 (yt q t k).2).2 = true then
   ((jk (yt q t k).2.length (yt q t k).1 (yt q t k).2).1, (jk (yt q t k).2.length (yt q t k).1 (yt q t k).2).2, true) else (q, t, false))
 else (q, t, false)
theorem y8R : ∀ (m : Nat) (q : List Int) (t : List y0), TS t → TS (jk m q t).2
 | 0, _, _, h => h
 | m + 1, q, t, h => by
  rw [jk]
  split
  ·exact h
  ·rename_i hp
   exact y8R m _ _ (ycg h hp)
section
variable {q : List Int} {t : List y0} {k : y7} (h : z6 q t = true) (hk : zR k = true)
include h hk
theorem Q3 : (Wa q (jX k.1 k.2.1) q.length) = (z5 q k : Int) ∧ z5 q k < t.length ∧ z5 q k < q.length := by
 obtain ⟨h1, h2, h3, h4⟩ := jW h
 have h5 := y3C q (jX k.1 k.2.1) (by rw [ych h]; exact yis hk) (q.length - 1)
 rw [show q.length - 1 + 1 = q.length by omega] at h5
 have h6 := y6O q (jX k.1 k.2.1) q.length
 unfold z5
 omega
theorem y0x : YA (t.getD (z5 q k) yf) = true := by
 have h1 := (Q3 h hk).2.1
 rw [yF _ _ _ h1]
 exact (jW h).2.2.2 _ (List.getElem_mem _)
theorem y8S (hm : (zn (t.getD (z5 q k) yf) k).2 = false) : Wb (Yf (t.getD (z5 q k) yf) k) < (Yf (t.getD (z5 q k) yf) k).length ∧ (Yf (t.getD (z5 q k) yf) k).length ≤ 9 := by
 have h1 := yit (y0x h hk) hk hm
 have h2 := y2t (t.getD (z5 q k) yf) k
 have h3 := KK (t.getD (z5 q k) yf)
 have h4 := (wl (y0x h hk)).2.1
 unfold Wb
 omega
theorem y6Q : TS (yt q t k).2 ∧ (yt q t k).1.length = (yt q t k).2.length := by
 obtain ⟨h1, h2, h3, h4⟩ := jW h
 obtain ⟨g0, g1, g2⟩ := Q3 h hk
 have hT := y2v h
 have hn := wl (y0x h hk)
 unfold yt
 split
 ·rename_i hm
  have hh := y8S h hk hm
  refine ⟨hT.splice (by rw [YC _ _ _ _ (by omega)]; simp only [List.length_cons, List.length_nil]; omega) fun n hn => ?_, by rw [YC _ _ _ _ (by omega), YC _ _ _ _ (by omega)]; simp only [List.length_cons, List.length_nil]; omega⟩
  simp only [List.mem_cons, List.mem_nil_iff, or_false] at hn
  rcases hn with rfl | rfl
  ·exact y0Z (by rw [List.length_take]; omega)
  ·exact y0Z (by rw [List.length_drop]; omega)
 ·split
  ·refine ⟨hT.splice (by rw [YC _ _ _ _ (by omega)]; simp only [List.length_nil]; omega) (fun n hn => by cases hn), by rw [YC _ _ _ _ (by omega), YC _ _ _ _ (by omega)]; simp only [List.length_nil]; omega⟩
  ·refine ⟨⟨by simp only [List.length_set]; omega, fun n hn2 => (List.mem_or_eq_of_mem_set hn2).elim (hT.node n) fun e => e ▸ y36 k (y2u (y0x h hk)) (by omega)⟩, by simp only [List.length_set]; omega⟩
end
theorem JT (q : List Int) (t : List y0) (a b c d e : Int) (hT : TOk t) (hQ : ∀ n ∈ t, y3X n) (hq : q.length ≤ 1048576) : Y5 (q, t, a, b, c, d, e) = some (yk q t (a, b, c, d, e)) := by
 unfold Y5 yk
 simp only [qb q t hq hT.len hQ, VY q t hT, y2k, Option.bind_some]
 cases h : z6 q t with
 | false => rfl
 | true =>
  cases hk : zR (a, b, c, d, e) with
  | false => rfl
  | true =>
   obtain ⟨h1, h2, h3, h4⟩ := jW h
   obtain ⟨g0, g1, g2⟩ := Q3 h hk
   have hNS := y2u (y0x h hk)
   have hnf := wl (y0x h hk)
   have hP := y6Q h hk
   have hJ := y8R (yt q t (a, b, c, d, e)).2.length (yt q t (a, b, c, d, e)).1 (yt q t (a, b, c, d, e)).2 hP.1
   have ern : ye t (z5 q (a, b, c, d, e) : Int) = t.getD (z5 q (a, b, c, d, e)) yf := by
    show t.getD ((z5 q (a, b, c, d, e) : Int)).toNat yf = _
    rw [Int.toNat_natCast]
   have erq : zt q (z5 q (a, b, c, d, e) : Int) = q.getD (z5 q (a, b, c, d, e)) 0 := by
    show q.getD ((z5 q (a, b, c, d, e) : Int)).toNat 0 = _
    rw [Int.toNat_natCast]
   have hfin : ∀ p : List Int × List y0, p = yt q t (a, b, c, d, e) → (Option.bind (Zg (p.1, p.2)) fun r15 => Option.bind (Yt (r15.1, r15.2)) fun r16 => bif (!r16) then some (q, t, false) else some (r15.1, r15.2, true)) = some (if z6 (jk (yt q t (a, b, c, d, e)).2.length (yt q t (a, b, c, d, e)).1 (yt q t (a, b, c, d, e)).2).1 (jk (yt q t (a, b, c, d, e)).2.length (yt q t (a, b, c, d, e)).1 (yt q t (a, b, c, d, e)).2).2 = true then ((jk (yt q t (a, b, c, d, e)).2.length (yt q t (a, b, c, d, e)).1 (yt q t (a, b, c, d, e)).2).1, (jk (yt q t (a, b, c, d, e)).2.length (yt q t (a, b, c, d, e)).1 (yt q t (a, b, c, d, e)).2).2, true) else (q, t, false)) := by
    rintro p rfl
    simp only [yaj _ _ hP.1 hP.2, Option.bind_some, VY _ _ hJ.ok]
    cases z6 (jk (yt q t (a, b, c, d, e)).2.length (yt q t (a, b, c, d, e)).1 (yt q t (a, b, c, d, e)).2).1 (jk (yt q t (a, b, c, d, e)).2.length (yt q t (a, b, c, d, e)).1 (yt q t (a, b, c, d, e)).2).2 <;> rfl
   simp only [Bool.not_true, cond_false, Option.bind_some, y0u q t a b hq, show Wa q (jX a b) q.length = (z5 q (a, b, c, d, e) : Int) from g0, ern, erq, Bool.and_self, if_true]
   rw [if_pos (by omega), if_pos (by omega), y5g _ a b c d e hNS]
   simp only [Option.bind_some]
   rw [if_pos (by omega), if_pos (by omega), Q2 q t _ _ _ (by omega) (by omega) (by omega) (by omega) (by omega) (by simp) (by simp)]
   simp only [Option.bind_some, Int.toNat_natCast]
   cases hm : (zn (t.getD (z5 q (a, b, c, d, e)) yf) (a, b, c, d, e)).2 with
   | false =>
    have hh := y8S h hk hm
    have hkn := (hNS.keys)
    have hsl := Wm (yz (t.getD (z5 q (a, b, c, d, e)) yf)) (a, b, c, d, e)
    have e1 : Y7 (Y1 (yz (t.getD (z5 q (a, b, c, d, e)) yf)) (a, b, c, d, e)) = some (Yf (t.getD (z5 q (a, b, c, d, e)) yf) (a, b, c, d, e)) := y0m _ (by omega)
    have hput := yt.eq_1 q t (a, b, c, d, e)
    rw [if_pos hm] at hput
    generalize hW : Yf (t.getD (z5 q (a, b, c, d, e)) yf) (a, b, c, d, e) = W at hh e1 hput
    have hwr : Go.IntKind.wrap .i64 (Int.tdiv (Go.IntKind.wrap .i64 (((List.length W : Nat) : Int) + (1 : Int))) (2 : Int)) = (Wb W : Int) := by
     rw [w64 (n := ((List.length W : Nat) : Int) + 1) (by omega) (by omega), Int.tdiv_eq_ediv_of_nonneg (by omega)]
     unfold Wb
     rw [w64 (by omega) (by omega)]
     omega
    simp only [Bool.not_false, cond_true, Za _ (Nat.le_trans hNS.len (by decide)) (Int.le_trans hNS.sum (by decide)), Kv _ a b c d e (show (yz (t.getD (z5 q (a, b, c, d, e)) yf)).length ≤ 1073741824 by omega), e1, Option.bind_some, hwr, Int.toNat_natCast]
    rw [if_pos (by omega), if_pos (by omega), if_pos (by omega), if_pos (by omega), if_pos (by omega), if_pos (by omega)]
    have e2 : JY ((y6 W (Wb W : Int)).1, (y6 W (Wb W : Int)).2.1, (y6 W (Wb W : Int)).2.2.1, (y6 W (Wb W : Int)).2.2.2.1, (y6 W (Wb W : Int)).2.2.2.2) = some (Jb (W.getD (Wb W) yH)) := by
     have e3 : y6 W (Wb W : Int) = W.getD (Wb W) yH := by
      show W.getD ((Wb W : Int)).toNat yH = _
      rw [Int.toNat_natCast]
     rw [e3]
     rfl
    rw [e2]
    simp only [Option.bind_some]
    rw [if_pos (by omega), if_pos (by omega), if_pos (by omega), JS _ (by simp only [List.length_drop, List.length_take]; omega)]
    simp only [Option.bind_some]
    rw [if_pos (by omega), if_pos (by omega), if_pos (by omega), JS _ (by simp only [List.length_drop, List.length_take]; omega)]
    simp only [Option.bind_some]
    rw [Q2 q t _ _ _ (by omega) (by omega) (by omega) (by omega) (by omega) (by simp) (by simp)]
    simp only [Option.bind_some, Int.toNat_natCast, List.take_length]
    exact hfin _ hput.symm
   | true =>
    have hP2 := y36 (a, b, c, d, e) hNS (by omega)
    have hnm : ¬ (zn (t.getD (z5 q (a, b, c, d, e)) yf) (a, b, c, d, e)).2 = false := by rw [hm]; simp
    simp only [Bool.not_true, cond_false, Za _ (Nat.le_trans hP2.len (by decide)) (Int.le_trans hP2.sum (by decide)), Option.bind_some]
    have hput := yt.eq_1 q t (a, b, c, d, e)
    rw [if_neg hnm] at hput
    have h3 : (bif decide ((z5 q (a, b, c, d, e) : Int) > 0) then some (((List.length (yz (zn (t.getD (z5 q (a, b, c, d, e)) yf) (a, b, c, d, e)).1) : Nat) : Int) == 0) else some false) = some (decide (0 < z5 q (a, b, c, d, e) ∧ (yz (zn (t.getD (z5 q (a, b, c, d, e)) yf) (a, b, c, d, e)).1).length = 0)) := by
     by_cases i0 : 0 < z5 q (a, b, c, d, e)
     ·rw [decide_eq_true (show (z5 q (a, b, c, d, e) : Int) > 0 by omega), cond_true]
      congr 1
      by_cases i1 : (yz (zn (t.getD (z5 q (a, b, c, d, e)) yf) (a, b, c, d, e)).1).length = 0
      ·rw [decide_eq_true ⟨i0, i1⟩]
       exact beq_iff_eq.2 (by omega)
      ·rw [decide_eq_false (fun hh => i1 hh.2)]
       exact beq_eq_false_iff_ne.2 (by omega)
     ·rw [decide_eq_false (show ¬ (z5 q (a, b, c, d, e) : Int) > 0 by omega), decide_eq_false (fun hh => i0 hh.1)]
      rfl
    rw [h3]
    simp only [Option.bind_some]
    by_cases hz : 0 < z5 q (a, b, c, d, e) ∧ (yz (zn (t.getD (z5 q (a, b, c, d, e)) yf) (a, b, c, d, e)).1).length = 0
    ·rw [if_pos hz] at hput
     rw [decide_eq_true hz, cond_true, Q2 q t _ _ _ (by omega) (by omega) (by omega) (by omega) (by omega) (by simp) (by simp)]
     simp only [Option.bind_some, Int.toNat_natCast]
     exact hfin _ hput.symm
    ·rw [if_neg hz] at hput
     rw [decide_eq_false hz, cond_false]
     rw [y10 q _ _ (by omega), y10 t _ _ (by omega)]
     refine hfin (q.set (z5 q (a, b, c, d, e)) (q.getD (z5 q (a, b, c, d, e)) 0), t.set (z5 q (a, b, c, d, e)) (zn (t.getD (z5 q (a, b, c, d, e)) yf) (a, b, c, d, e)).1) ?_
     rw [hput, yF _ _ _ (by omega), List.set_getElem_self]
theorem Vl (q : List Int) (t : List y0) (a b c d e : Int) (hT : TOk t) (hQ : ∀ n ∈ t, y3X n) (hq : q.length ≤ 1048576) : ZF (q, t, a, b, c, d, e) = some (yk q t (a, b, c, d, e)) := by
 unfold ZF yk
 simp only [Qw q t hq hT.len hQ, VZ q t hT, y2l, Option.bind_some]
 cases h : z6 q t with
 | false => rfl
 | true =>
  cases hk : zR (a, b, c, d, e) with
  | false => rfl
  | true =>
   obtain ⟨h1, h2, h3, h4⟩ := jW h
   obtain ⟨g0, g1, g2⟩ := Q3 h hk
   have hNS := y2u (y0x h hk)
   have hnf := wl (y0x h hk)
   have hP := y6Q h hk
   have hJ := y8R (yt q t (a, b, c, d, e)).2.length (yt q t (a, b, c, d, e)).1 (yt q t (a, b, c, d, e)).2 hP.1
   have ern : ye t (z5 q (a, b, c, d, e) : Int) = t.getD (z5 q (a, b, c, d, e)) yf := by
    show t.getD ((z5 q (a, b, c, d, e) : Int)).toNat yf = _
    rw [Int.toNat_natCast]
   have erq : zt q (z5 q (a, b, c, d, e) : Int) = q.getD (z5 q (a, b, c, d, e)) 0 := by
    show q.getD ((z5 q (a, b, c, d, e) : Int)).toNat 0 = _
    rw [Int.toNat_natCast]
   have hfin : ∀ p : List Int × List y0, p = yt q t (a, b, c, d, e) → (Option.bind (Zt (p.1, p.2)) fun r15 => Option.bind (Yu (r15.1, r15.2)) fun r16 => bif (!r16) then some (q, t, false) else some (r15.1, r15.2, true)) = some (if z6 (jk (yt q t (a, b, c, d, e)).2.length (yt q t (a, b, c, d, e)).1 (yt q t (a, b, c, d, e)).2).1 (jk (yt q t (a, b, c, d, e)).2.length (yt q t (a, b, c, d, e)).1 (yt q t (a, b, c, d, e)).2).2 = true then ((jk (yt q t (a, b, c, d, e)).2.length (yt q t (a, b, c, d, e)).1 (yt q t (a, b, c, d, e)).2).1, (jk (yt q t (a, b, c, d, e)).2.length (yt q t (a, b, c, d, e)).1 (yt q t (a, b, c, d, e)).2).2, true) else (q, t, false)) := by
    rintro p rfl
    simp only [y63 _ _ hP.1 hP.2, Option.bind_some, VZ _ _ hJ.ok]
    cases z6 (jk (yt q t (a, b, c, d, e)).2.length (yt q t (a, b, c, d, e)).1 (yt q t (a, b, c, d, e)).2).1 (jk (yt q t (a, b, c, d, e)).2.length (yt q t (a, b, c, d, e)).1 (yt q t (a, b, c, d, e)).2).2 <;> rfl
   simp only [Bool.not_true, cond_false, Option.bind_some, y0v q t a b hq, show Wa q (jX a b) q.length = (z5 q (a, b, c, d, e) : Int) from g0, ern, erq, Bool.and_self, if_true]
   rw [if_pos (by omega), if_pos (by omega), y5h _ a b c d e hNS]
   simp only [Option.bind_some, Int.toNat_natCast]
   cases hm : (zn (t.getD (z5 q (a, b, c, d, e)) yf) (a, b, c, d, e)).2 with
   | false =>
    have hh := y8S h hk hm
    have e1 : zY (t.getD (z5 q (a, b, c, d, e)) yf, a, b, c, d, e) = some (Yf (t.getD (z5 q (a, b, c, d, e)) yf) (a, b, c, d, e)) := Qx _ a b c d e hNS
    have hput := yt.eq_1 q t (a, b, c, d, e)
    rw [if_pos hm] at hput
    generalize hW : Yf (t.getD (z5 q (a, b, c, d, e)) yf) (a, b, c, d, e) = W at hh e1 hput
    have hwr : Go.IntKind.wrap .i64 (Int.tdiv (Go.IntKind.wrap .i64 (((List.length W : Nat) : Int) + (1 : Int))) (2 : Int)) = (Wb W : Int) := by
     rw [w64 (n := ((List.length W : Nat) : Int) + 1) (by omega) (by omega), Int.tdiv_eq_ediv_of_nonneg (by omega)]
     unfold Wb
     rw [w64 (by omega) (by omega)]
     omega
    simp only [Bool.not_false, cond_true, e1, Option.bind_some, hwr, Int.toNat_natCast]
    rw [if_pos (by omega), if_pos (by omega), if_pos (by omega), if_pos (by omega), if_pos (by omega), if_pos (by omega)]
    have e2 : Zo ((y6 W (Wb W : Int)).1, (y6 W (Wb W : Int)).2.1) = some (Jb (W.getD (Wb W) yH)) := by
     have e3 : y6 W (Wb W : Int) = W.getD (Wb W) yH := by
      show W.getD ((Wb W : Int)).toNat yH = _
      rw [Int.toNat_natCast]
     rw [e3]
     rfl
    rw [e2]
    simp only [Option.bind_some]
    rw [if_pos (by omega), if_pos (by omega), if_pos (by omega), kA _ (by simp only [List.length_drop, List.length_take]; omega)]
    simp only [Option.bind_some]
    rw [if_pos (by omega), if_pos (by omega), if_pos (by omega), kA _ (by simp only [List.length_drop, List.length_take]; omega)]
    simp only [Option.bind_some]
    rw [vb q t _ 1 _ _ (by omega) (by decide) (by omega) (by omega) (by omega) (by omega) (by simp) (by simp)]
    simp only [Option.bind_some, Int.toNat_natCast, List.take_length]
    exact hfin _ hput.symm
   | true =>
    have hP2 := y36 (a, b, c, d, e) hNS (by omega)
    have hnm : ¬ (zn (t.getD (z5 q (a, b, c, d, e)) yf) (a, b, c, d, e)).2 = false := by rw [hm]; simp
    simp only [Bool.not_true, cond_false, jT _ (Nat.le_trans hP2.len (by decide)) (Int.le_trans hP2.sum (by decide)), Option.bind_some]
    have hput := yt.eq_1 q t (a, b, c, d, e)
    rw [if_neg hnm] at hput
    have h3 : (bif decide ((z5 q (a, b, c, d, e) : Int) > 0) then some (((List.length (yz (zn (t.getD (z5 q (a, b, c, d, e)) yf) (a, b, c, d, e)).1) : Nat) : Int) == 0) else some false) = some (decide (0 < z5 q (a, b, c, d, e) ∧ (yz (zn (t.getD (z5 q (a, b, c, d, e)) yf) (a, b, c, d, e)).1).length = 0)) := by
     by_cases i0 : 0 < z5 q (a, b, c, d, e)
     ·rw [decide_eq_true (show (z5 q (a, b, c, d, e) : Int) > 0 by omega), cond_true]
      congr 1
      by_cases i1 : (yz (zn (t.getD (z5 q (a, b, c, d, e)) yf) (a, b, c, d, e)).1).length = 0
      ·rw [decide_eq_true ⟨i0, i1⟩]
       exact beq_iff_eq.2 (by omega)
      ·rw [decide_eq_false (fun hh => i1 hh.2)]
       exact beq_eq_false_iff_ne.2 (by omega)
     ·rw [decide_eq_false (show ¬ (z5 q (a, b, c, d, e) : Int) > 0 by omega), decide_eq_false (fun hh => i0 hh.1)]
      rfl
    rw [h3]
    simp only [Option.bind_some]
    by_cases hz : 0 < z5 q (a, b, c, d, e) ∧ (yz (zn (t.getD (z5 q (a, b, c, d, e)) yf) (a, b, c, d, e)).1).length = 0
    ·rw [if_pos hz] at hput
     rw [decide_eq_true hz, cond_true, vb q t _ 1 _ _ (by omega) (by decide) (by omega) (by omega) (by omega) (by omega) (by simp) (by simp)]
     simp only [Option.bind_some, Int.toNat_natCast]
     exact hfin _ hput.symm
    ·rw [if_neg hz] at hput
     rw [decide_eq_false hz, cond_false, if_pos (by omega), if_pos (by omega)]
     exact hfin _ hput.symm
end Go.Proofs.YtjllpipmaejeoaaGreat.Pl
namespace Go.Proofs.YtjllpipmaejeoaaGreat.Pl
open Go.Proofs.YtjllpipmaejeoaaGreat.R Go.Proofs.YtjllpipmaejeoaaGreat.XV
theorem y0y (a : y7) : W7 a a = false := by
 cases h : W7 a a with
 | false => rfl
 | true =>
  rw [KL] at h
  omega
theorem y37 : ∀ {a b : List y7}, srt a → srt b → (∀ x, x ∈ a ↔ x ∈ b) → a = b
 | [], [], _, _, _ => rfl
 | [], y :: b, _, _, h => absurd ((h y).2 (by simp)) (by simp)
 | x :: a, [], _, _, h => absurd ((h x).1 (by simp)) (by simp)
 | x :: a, y :: b, ha, hb, h => by
  obtain ⟨ha1, ha2⟩ := List.pairwise_cons.1 ha
  obtain ⟨hb1, hb2⟩ := List.pairwise_cons.1 hb
  have hxy : x = y := by
   rcases List.mem_cons.1 ((h x).1 (by simp)) with e | h1
   ·exact e
   ·rcases List.mem_cons.1 ((h y).2 (by simp)) with e | h2
    ·exact e.symm
    ·have := y1J (hb1 x h1) (ha1 y h2)
     rw [y0y] at this
     cases this
  subst hxy
  rw [y37 ha2 hb2 fun z => ?_]
  constructor
  ·intro hz
   rcases List.mem_cons.1 ((h z).1 (by simp [hz])) with rfl | h1
   ·have := ha1 z hz
    rw [y0y] at this
    cases this
   ·exact h1
  ·intro hz
   rcases List.mem_cons.1 ((h z).2 (by simp [hz])) with rfl | h1
   ·have := hb1 z hz
    rw [y0y] at this
    cases this
   ·exact h1
theorem qc {c k : y7} (h : W7 c k = true) : Y3 c k = false := by
 cases hs : Y3 c k with
 | false => rfl
 | true =>
  rw [KL] at h
  rw [zx] at hs
  omega
theorem qd {k x : y7} : ∀ {l : List y7}, x ∈ Y1 l k ↔ x = k ∨ (x ∈ l ∧ Y3 x k = false) := by
 intro l
 rw [Kh]
 induction l with
 | nil => simp [y9g]
 | cons c r ih =>
  rw [y9g]
  split
  ·rename_i hl
   have := qc hl
   simp only [List.mem_cons, ih]
   constructor
   ·rintro (rfl | rfl | ⟨h1, h2⟩)
    ·exact .inr ⟨.inl rfl, this⟩
    ·exact .inl rfl
    ·exact .inr ⟨.inr h1, h2⟩
   ·rintro (rfl | ⟨rfl | h1, h2⟩)
    ·exact .inr (.inl rfl)
    ·exact .inl rfl
    ·exact .inr (.inr ⟨h1, h2⟩)
  ·simp only [List.mem_cons, List.mem_filter, Bool.not_eq_true']
theorem y0z {a b : y7} : Y3 a b = Y3 b a := by
 cases h : Y3 b a with
 | true => rw [zx] at h ⊢; exact ⟨h.1.symm, h.2.symm⟩
 | false =>
  cases h2 : Y3 a b with
  | false => rfl
  | true =>
   rw [zx] at h2
   rw [zx.2 ⟨h2.1.symm, h2.2.symm⟩] at h
   cases h
theorem yew {a b c : y7} (h1 : Y3 a b = true) (h2 : Y3 b c = true) : Y3 a c = true := by
 rw [zx] at *
 exact ⟨h1.1.trans h2.1, h1.2.trans h2.2⟩
theorem KO {x : y7} : ∀ {b a : List y7}, srt b → (x ∈ Z4 a b ↔ x ∈ b ∨ (x ∈ a ∧ ∀ y ∈ b, Y3 x y = false))
 | [], a, _ => by simp [Z4]
 | c :: b, a, h => by
  obtain ⟨h1, h2⟩ := List.pairwise_cons.1 h
  have := KO (x := x) (b := b) (a := Y1 a c) h2
  rw [show Z4 a (c :: b) = Z4 (Y1 a c) b from rfl, this, qd]
  constructor
  ·rintro (h3 | ⟨rfl | ⟨h3, h4⟩, h5⟩)
   ·exact .inl (by simp [h3])
   ·exact .inl (by simp)
   ·exact .inr ⟨h3, fun y hy => by
     rcases List.mem_cons.1 hy with rfl | hy
     ·exact h4
     ·exact h5 y hy⟩
  ·rintro (h3 | ⟨h3, h4⟩)
   ·rcases List.mem_cons.1 h3 with rfl | h3
    ·exact .inr ⟨.inl rfl, fun y hy => qc (h1 y hy)⟩
    ·exact .inl h3
   ·exact .inr ⟨.inr ⟨h3, h4 c (by simp)⟩, fun y hy => h4 y (by simp [hy])⟩
theorem ygt {a b : List y7} (ha : srt a) (hb : srt b) (k : y7) : Z4 a (Y1 b k) = Y1 (Z4 a b) k := by
 refine y37 (qI _ _ ha) (wj k (qI _ _ ha)) fun x => ?_
 rw [KO (wj k hb), qd, qd, KO hb]
 constructor
 ·rintro ((rfl | ⟨h1, h2⟩) | ⟨h1, h2⟩)
  ·exact .inl rfl
  ·exact .inr ⟨.inl h1, h2⟩
  ·have hk := h2 k (qd.2 (.inl rfl))
   refine .inr ⟨.inr ⟨h1, fun y hy => ?_⟩, hk⟩
   cases hy2 : Y3 y k with
   | false => exact h2 y (qd.2 (.inr ⟨hy, hy2⟩))
   | true =>
    cases hxy : Y3 x y with
    | false => rfl
    | true => rw [yew hxy hy2] at hk; cases hk
 ·rintro (rfl | ⟨h1 | ⟨h1, h2⟩, h3⟩)
  ·exact .inl (.inl rfl)
  ·exact .inl (.inr ⟨h1, h3⟩)
  ·refine .inr ⟨h1, fun y hy => ?_⟩
   rcases qd.1 hy with rfl | ⟨hy, _⟩
   ·exact h3
   ·exact h2 y hy
theorem wm {x : y7} {l : List y7} : x ∈ W8 l ↔ x ∈ l ∧ x.2.2.1 ≠ 0 := by
 rw [Q1, List.mem_filter]
 simp
theorem yiu {l : List y7} (h : srt l) (k : y7) : W8 (Y1 (W8 l) k) = W8 (Y1 l k) := by
 refine y37 (KM (wj k (KM h))) (KM (wj k h)) fun x => ?_
 rw [wm, wm, qd, qd, wm]
 constructor
 ·rintro ⟨rfl | ⟨⟨h1, h2⟩, h3⟩, h4⟩
  ·exact ⟨.inl rfl, h4⟩
  ·exact ⟨.inr ⟨h1, h3⟩, h4⟩
 ·rintro ⟨rfl | ⟨h1, h3⟩, h4⟩
  ·exact ⟨.inl rfl, h4⟩
  ·exact ⟨.inr ⟨⟨h1, h4⟩, h3⟩, h4⟩
theorem y5j (l : List y7) (h : ∀ x ∈ l, x.2.2.1 ≠ 0) : W8 l = l := by
 rw [Q1, List.filter_eq_self]
 intro x hx
 simpa using h x hx
theorem ydm (a b : List y7) : W8 (a ++ b) = W8 a ++ W8 b := by
 rw [Q1, Q1, Q1, List.filter_append]
theorem Vm {n : List ya} {x : y7} (h : x ∈ yz n) : x.2.2.1 ≠ 0 := (wm.1 h).2
theorem ygu (k : y7) {C : List y7} (hC : ∀ x ∈ C, W7 k x = true) : ∀ {A B : List y7}, (∀ x ∈ A, W7 x k = true) → Y1 (A ++ B ++ C) k = A ++ Y1 B k ++ C
 | a :: A, B, hA => by
  have := ygu k hC (A := A) (B := B) fun x hx => hA x (by simp [hx])
  rw [Kh] at *
  rw [List.cons_append, List.cons_append, y9g, if_pos (hA a (by simp)), this, Kh]
  rfl
 | [], B, _ => by
  rw [Kh, Kh, List.nil_append, List.nil_append]
  induction B with
  | nil =>
   cases C with
   | nil => rfl
   | cons c C =>
    rw [List.nil_append, show y9g ([] : List y7) k = [k] from rfl, y9g, if_neg, List.filter_eq_self.2]
    ·rfl
    ·intro x hx
     rw [y0z, qc (hC x hx)]
     rfl
    ·intro h
     have := y1J h (hC c (by simp))
     rw [y0y] at this
     cases this
  | cons b B ih =>
   rw [List.cons_append, y9g, y9g]
   split
   ·rw [ih]
    rfl
   ·rw [← List.cons_append, List.filter_append, List.cons_append]
    congr 2
    rw [List.filter_eq_self]
    intro x hx
    rw [y0z, qc (hC x hx)]
    rfl
def yhf (n : List ya) : List y7 := n.foldl Z4 []
theorem ydn (n : List ya) : srt (yhf n) := y5d n [] List.Pairwise.nil
theorem ydo (n : List ya) : yz n = W8 (yhf n) := rfl
theorem yak {s : List y7} (h : Wn s = true) : srt s := by
 unfold Wn at h
 simp only [Bool.and_eq_true, Bool.not_eq_true', decide_eq_true_eq] at h
 have step : ∀ j : Nat, (hj : j + 1 < s.length) → W7 s[j] s[j + 1] = true := fun j hj => by
  have := Ja yH s 0 h.2.1 (j + 1) hj
  unfold ws at this
  rw [show ((0 : Int) + ((j + 1 : Nat) : Int) - 1).toNat = j by omega, yF _ _ _ (by omega), yF _ _ _ hj] at this
  simp only [Bool.and_eq_false_iff, Bool.not_eq_false', decide_eq_false_iff_not] at this
  rcases this with h1 | h1
  ·omega
  ·exact h1
 refine List.pairwise_iff_getElem.2 fun i j hi hj hij => ?_
 obtain ⟨d, rfl⟩ : ∃ d, j = i + 1 + d := ⟨j - (i + 1), by omega⟩
 induction d with
 | zero => exact step i hj
 | succ d ih => exact y1J (ih (by omega) (by omega)) (step (i + 1 + d) hj)
theorem Zx {l : List y7} (h : srt l) (hl : ∀ x ∈ l, x.2.2.1 ≠ 0) : yz (yM l) = l := by
 unfold yM
 split
 ·rename_i h0
  rw [List.length_eq_zero_iff.1 h0]
  rfl
 ·show W8 (Z4 [] l) = l
  rw [show Z4 [] l = l from y37 (qI l [] List.Pairwise.nil) h fun x => by rw [KO h]; simp]
  exact y5j l hl
theorem y4o (n : List ya) (s : ya) : yhf (n ++ [s]) = Z4 (yhf n) s := by
 unfold yhf
 rw [List.foldl_append]
 rfl
theorem yci {n : List ya} (k : y7) (hn : ∀ s ∈ n, Wn s = true) : yz (JR n k) = Yf n k := by
 rw [ydo]
 unfold Yf
 rw [ydo, yiu (ydn n)]
 congr 1
 unfold JR
 split
 ·rename_i h
  obtain ⟨n0, hn0⟩ : ∃ n0 : List ya, n = n0 ++ [wk n] := by
   refine ⟨n.take (n.length - 1), ?_⟩
   unfold wk
   rw [yF _ _ _ (by omega)]
   have e := List.take_append_drop (n.length - 1) n
   rw [List.drop_eq_getElem_cons (by omega), List.drop_eq_nil_of_le (by omega)] at e
   exact e.symm
  have hlast := yak (hn _ (y2s h.1))
  have e1 : n.set (n.length - 1) (Y1 (wk n) k) = n0 ++ [Y1 (wk n) k] := by
   generalize wk n = L at *
   rw [hn0, List.length_append, List.set_append_right _ _ (by simp)]
   simp
  rw [e1, y4o, ygt (ydn n0) hlast k, ← y4o, ← hn0]
 ·rw [y4o]
  rfl
theorem y4p (n : List ya) (k : y7) : srt (Yf n k) := KM (wj k (KN n))
theorem y2w {n : List ya} {k x : y7} (h : x ∈ Yf n k) : x.2.2.1 ≠ 0 := (wm.1 h).2
theorem yal {n : List ya} (k : y7) (hn : ∀ s ∈ n, Wn s = true) (h : (zn n k).2 = true) : yz (zn n k).1 = Yf n k := by
 unfold zn at h ⊢
 split
 ·exact yci k hn
 ·rename_i h1
  rw [if_neg h1] at h
  split
  ·rename_i h2
   rw [if_pos h2] at h
   cases h
  ·rename_i h2
   rw [if_neg h2] at h
   split
   ·exact Zx (y4p n k) fun x hx => y2w hx
   ·rename_i h3
    rw [if_neg h3] at h
    cases h
theorem yzq (t : List y0) : ∀ s : List y7, t.foldl ku s = s ++ t.flatMap yz := by
 induction t with
 | nil => intro s; simp
 | cons n t ih =>
  intro s
  rw [List.foldl_cons, ih]
  simp [ku]
theorem KP (t : List y0) : yc t = t.flatMap yz := by
 unfold yc
 rw [yzq]
 rfl
theorem YD (a b : List y0) : yc (a ++ b) = yc a ++ yc b := by
 rw [KP, KP, KP, List.flatMap_append]
theorem KA (n : y0) : yc [n] = yz n := by
 rw [KP]
 simp
theorem y4q {t : List y0} {x : y7} : x ∈ yc t ↔ ∃ n ∈ t, x ∈ yz n := by
 rw [KP, List.mem_flatMap]
theorem y0A {t : List y0} {x : y7} (h : x ∈ yc t) : x.2.2.1 ≠ 0 := by
 obtain ⟨n, _, hx⟩ := y4q.1 h
 exact Vm hx
theorem qJ {A : Type} (d : A) (t : List A) (i : Nat) (h : i < t.length) : t = t.take i ++ ([t.getD i d] ++ t.drop (i + 1)) := by
 have e := List.take_append_drop i t
 rw [List.drop_eq_getElem_cons h] at e
 rw [yF _ _ _ h]
 exact e.symm
theorem y5k : ∀ (m : Nat) (q : List Int) (t : List y0), srt (yc t) → yc (jk m q t).2 = yc t
 | 0, _, _, _ => rfl
 | m + 1, q, t, h => by
  rw [jk]
  split
  ·rfl
  ·rename_i hp
   have hs : 0 ≤ yD t 0 ∧ yD t 0 + 2 ≤ (t.length : Int) := by
    rcases y34 t 0 with h1 | ⟨h1, h2, _⟩
    ·omega
    ·exact ⟨h1, by omega⟩
   have e1 := qJ yf t (yD t 0).toNat (by omega)
   have e2 := qJ yf (t.drop ((yD t 0).toNat + 1)) 0 (by rw [List.length_drop]; omega)
   have e3 : (t.drop ((yD t 0).toNat + 1)).getD 0 yf = t.getD (yD t 0 + 1).toNat yf := by
    rw [List.getD_eq_getElem?_getD, List.getD_eq_getElem?_getD, List.getElem?_drop, show (yD t 0).toNat + 1 + 0 = (yD t 0 + 1).toNat by omega]
   rw [e3, List.take_zero, List.nil_append, List.drop_drop] at e2
   have hk : yc t = yc (t.take (yD t 0).toNat) ++ ((yz (t.getD (yD t 0).toNat yf) ++ yz (t.getD (yD t 0 + 1).toNat yf)) ++ yc (t.drop ((yD t 0).toNat + 2))) := by
    conv => lhs; rw [e1]
    rw [e2, YD, YD, YD, KA, KA, List.append_assoc]
   have hx : srt (yz (t.getD (yD t 0).toNat yf) ++ yz (t.getD (yD t 0 + 1).toNat yf)) := by
    rw [hk] at h
    exact (List.pairwise_append.1 (List.pairwise_append.1 h).2.1).1
   have ht : yc (yZ t (yD t 0).toNat 2 [yM (yz (t.getD (yD t 0).toNat yf) ++ yz (t.getD (yD t 0 + 1).toNat yf))]) = yc t := by
    unfold yZ
    rw [YD, YD, KA, Zx hx (fun x hx => (List.mem_append.1 hx).elim Vm Vm), hk, List.append_assoc]
   rw [y5k m _ _ (by rw [ht]; exact h), ht]
end Go.Proofs.YtjllpipmaejeoaaGreat.Pl
namespace Go.Proofs.YtjllpipmaejeoaaGreat.Pl
open Go.Proofs.YtjllpipmaejeoaaGreat.R Go.Proofs.YtjllpipmaejeoaaGreat.XV
theorem Wp {A : Type} {p : A → Bool} : ∀ (l : List A) (i : Int), 0 ≤ i → zE p l i < 0 → ∀ a ∈ l, p a = false
 | [], _, _, _, a, ha => by simp at ha
 | b :: l, i, hi, h, a, ha => by
  rw [zE] at h
  split at h
  ·omega
  ·rename_i hb
   rcases List.mem_cons.1 ha with rfl | ha
   ·simpa using hb
   ·exact Wp l (i + 1) (by omega) h a ha
theorem y8T {k : y7} (h : zR k = true) : Jb k = 64 * k.1 + k.2.1 ∧ 0 ≤ k.1 ∧ k.1 ≤ 15 ∧ 1 ≤ k.2.1 ∧ k.2.1 ≤ 60 := by
 unfold zR at h
 simp only [Bool.and_eq_true, zv] at h
 obtain ⟨⟨h1, h2⟩, ⟨h3, h4⟩, _⟩ := h
 refine ⟨?_, h1, h2, h3, h4⟩
 unfold Jb
 rw [w64 (n := 64 * k.1) (by omega) (by omega), w64 (by omega) (by omega)]
theorem qK {a b : y7} (ha : zR a = true) (hb : zR b = true) : W7 a b = true ↔ Jb a < Jb b := by
 have h1 := y8T ha
 have h2 := y8T hb
 rw [KL, h1.1, h2.1]
 omega
structure Parts (q : List Int) (t : List y0) : Prop where
 len : q.length = t.length
 zero : q.getD 0 0 = 0
 pos : 0 < t.length
 ok : ∀ i, i < t.length → ∀ s ∈ (show List ya from t.getD i yf), Wn s = true
 low : ∀ i, i + 1 < t.length → q.getD i 0 < q.getD (i + 1) 0
 key : ∀ i, i < t.length → ∀ x ∈ yz (t.getD i yf), zR x = true ∧ q.getD i 0 ≤ Jb x ∧ (i + 1 < t.length → Jb x < q.getD (i + 1) 0)
theorem zP {q : List Int} {t : List y0} (h : z6 q t = true) : Parts q t := by
 obtain ⟨f1, f2, f3, f4⟩ := jW h
 unfold z6 at h
 simp only [Bool.and_eq_true, Bool.not_eq_true', decide_eq_true_eq, zv, beq_iff_eq] at h
 obtain ⟨_, _, h0, h3, _⟩ := h
 have hb : ∀ i, i < t.length → yer q i = false ∧ y2n q i (t.getD i yf) = true := fun i hi => by
  have := Ja yf t 0 h3 i hi
  unfold v8 at this
  simp only [Bool.or_eq_false_iff, Bool.not_eq_false'] at this
  rw [show (0 : Int) + (i : Int) = i by omega] at this
  exact this
 have hmem : ∀ i, i < t.length → t.getD i yf ∈ t := fun i hi => by
  rw [yF _ _ _ hi]
  exact List.getElem_mem _
 have hset : ∀ i, i < t.length → ∀ s ∈ (show List ya from t.getD i yf), Wn s = true := fun i hi s hs => (y2o (f4 _ (hmem i hi))).2 s hs
 refine ⟨f1, h0, by omega, hset, fun i hi => ?_, fun i hi x hx => ?_⟩
 ·have := (hb (i + 1) hi).1
  unfold yer at this
  simp only [Bool.and_eq_false_iff, decide_eq_false_iff_not] at this
  rcases this with h1 | h1
  ·omega
  ·rw [show (((i + 1 : Nat) : Int) - 1).toNat = i by omega, show (((i + 1 : Nat) : Int)).toNat = i + 1 by omega] at h1
   omega
 ·obtain ⟨c, hc, hxc⟩ := y0r hx
  refine ⟨(y4m (hset i hi c hc)).2 x hxc, ?_⟩
  have h1 := (hb i hi).2
  unfold y2n at h1
  simp only [Bool.and_eq_true, Bool.not_eq_true'] at h1
  obtain ⟨_, h2⟩ := J6 _ _ 0 h1.2.2 c hc
  unfold yaZ at h2
  obtain ⟨_, h3⟩ := J6 _ _ 0 h2 x hxc
  unfold yhe at h3
  simp only [Bool.or_eq_false_iff, decide_eq_false_iff_not, Bool.and_eq_false_iff] at h3
  rw [show ((i : Nat) : Int).toNat = i by omega, show (((i : Nat) : Int) + 1).toNat = i + 1 by omega] at h3
  refine ⟨by omega, fun h4 => ?_⟩
  rcases h3.2 with h5 | h5 <;> omega
section
variable {q : List Int} {t : List y0} (h : Parts q t)
include h
theorem Parts.lows : ∀ (d i : Nat), i + 1 + d < t.length → q.getD i 0 < q.getD (i + 1 + d) 0
 | 0, i, hi => h.low i hi
 | d + 1, i, hi => by
  have h1 := Parts.lows d i (by omega)
  have h2 := h.low (i + 1 + d) (by omega)
  rw [show i + 1 + (d + 1) = i + 1 + d + 1 by omega]
  omega
theorem Parts.apart {i j : Nat} (hij : i < j) (hj : j < t.length) : ∀ x ∈ yz (t.getD i yf), Jb x < q.getD j 0 := fun x hx => by
 obtain ⟨_, _, h3⟩ := h.key i (by omega) x hx
 have h3 := h3 (by omega)
 by_cases e : j = i + 1
 ·rw [e]
  exact h3
 ·have := h.lows (j - (i + 1) - 1) (i + 1) (by omega)
  rw [show i + 1 + 1 + (j - (i + 1) - 1) = j by omega] at this
  omega
theorem Parts.srt : srt (yc t) := by
 rw [KP]
 refine List.pairwise_flatMap.2 ⟨fun n hn => KN n, List.pairwise_iff_getElem.2 fun i j hi hj hij x hx y hy => ?_⟩
 rw [← yF yf t i hi] at hx
 rw [← yF yf t j hj] at hy
 obtain ⟨kx, _⟩ := h.key i hi x hx
 obtain ⟨ky, ly, _⟩ := h.key j hj y hy
 rw [qK kx ky]
 have := h.apart hij hj x hx
 omega
omit h in
theorem y8U (q : List Int) (sp : Int) : ∀ (n : Nat) (j : Nat), Wa q sp n = (j : Int) → q.getD j 0 ≤ sp ∧ j < n ∧ ∀ i, j < i → i < n → sp < q.getD i 0
 | 0, j, h => by
  rw [Wa] at h
  omega
 | n + 1, j, h => by
  rw [Wa] at h
  split at h
  ·rename_i hq
   have : j = n := by omega
   subst this
   exact ⟨hq, Nat.lt_succ_self _, fun i h1 h2 => by omega⟩
  ·rename_i hq
   obtain ⟨h1, h2, h3⟩ := y8U q sp n j h
   refine ⟨h1, by omega, fun i h4 h5 => ?_⟩
   by_cases e : i = n
   ·subst e
    omega
   ·exact h3 i h4 (by omega)
theorem Parts.around {k : y7} (hk : zR k = true) {j : Nat} (hj : Wa q (jX k.1 k.2.1) q.length = (j : Int)) : (∀ x ∈ yc (t.take j), W7 x k = true) ∧ ∀ x ∈ yc (t.drop (j + 1)), W7 k x = true := by
 have hs : jX k.1 k.2.1 = Jb k := rfl
 rw [hs] at hj
 obtain ⟨h1, h2, h3⟩ := y8U q (Jb k) q.length j hj
 rw [h.len] at h2 h3
 refine ⟨fun x hx => ?_, fun x hx => ?_⟩
 ·obtain ⟨n, hn, hx⟩ := y4q.1 hx
  obtain ⟨i, hi, rfl⟩ := List.mem_iff_getElem.1 hn
  rw [List.length_take] at hi
  rw [List.getElem_take, ← yF yf t i (by omega)] at hx
  have hx1 := (h.key i (by omega) x hx).1
  have := h.apart (show i < j by omega) h2 x hx
  rw [qK hx1 hk]
  omega
 ·obtain ⟨n, hn, hx⟩ := y4q.1 hx
  obtain ⟨i, hi, rfl⟩ := List.mem_iff_getElem.1 hn
  rw [List.length_drop] at hi
  rw [List.getElem_drop, ← yF yf t (j + 1 + i) (by omega)] at hx
  obtain ⟨hx1, hx2, _⟩ := h.key (j + 1 + i) (by omega) x hx
  have := h3 (j + 1 + i) (by omega) (by omega)
  rw [qK hk hx1]
  omega
end
theorem y0B {q : List Int} {t : List y0} {k : y7} (h : z6 q t = true) (hk : zR k = true) : yc (yt q t k).2 = W8 (Y1 (yc t) k) := by
 have hP := zP h
 obtain ⟨e1, e2, e3⟩ := Q3 h hk
 obtain ⟨hA, hC⟩ := hP.around hk e1
 have hsp := qJ yf t (z5 q k) e2
 have ht : yc t = yc (t.take (z5 q k)) ++ yz (t.getD (z5 q k) yf) ++ yc (t.drop (z5 q k + 1)) := by
  conv => lhs; rw [hsp]
  rw [YD, YD, KA, List.append_assoc]
 have hgoal : W8 (Y1 (yc t) k) = yc (t.take (z5 q k)) ++ (Yf (t.getD (z5 q k) yf) k ++ yc (t.drop (z5 q k + 1))) := by
  rw [ht, ygu k hC hA, ydm, ydm, y5j _ (fun x hx => y0A hx), y5j _ (fun x hx => y0A hx), List.append_assoc]
  rfl
 have hok := hP.ok (z5 q k) e2
 have hset : ∀ n' : y0, yc (t.set (z5 q k) n') = yc (t.take (z5 q k)) ++ (yz n' ++ yc (t.drop (z5 q k + 1))) := fun n' => by
  rw [← y10 t (z5 q k) n' e2]
  unfold yZ
  rw [YD, YD, KA, List.append_assoc]
 rw [hgoal]
 unfold yt
 generalize hn : t.getD (z5 q k) yf = n at *
 split
 ·unfold yZ
  simp only
  have hw := y4p n k
  have e4 : ∀ m, yz (yM ((Yf n k).take m)) = (Yf n k).take m := fun m => Zx (List.Pairwise.sublist (List.take_sublist _ _) hw) fun x hx => y2w (List.mem_of_mem_take hx)
  have e5 : ∀ m, yz (yM ((Yf n k).drop m)) = (Yf n k).drop m := fun m => Zx (List.Pairwise.sublist (List.drop_sublist _ _) hw) fun x hx => y2w (List.mem_of_mem_drop hx)
  rw [YD, YD, show [yM ((Yf n k).take (Wb (Yf n k))), yM ((Yf n k).drop (Wb (Yf n k)))] = [yM ((Yf n k).take (Wb (Yf n k)))] ++ [yM ((Yf n k).drop (Wb (Yf n k)))] from rfl, YD, KA, KA, e4, e5, List.take_append_drop, List.append_assoc]
 ·rename_i h1
  have h2 := yal k hok (by simpa using h1)
  split
  ·rename_i h3
   rw [h2] at h3
   unfold yZ
   simp only
   rw [List.length_eq_zero_iff.1 h3.2, YD, YD]
   simp [KP]
  ·rw [hset, h2]
theorem y5l {q : List Int} {t : List y0} {k : y7} (h : z6 q t = true) (hk : zR k = true) : srt (yc (yt q t k).2) := by
 rw [y0B h hk]
 exact KM (wj k (zP h).srt)
theorem y0C {q : List Int} {t : List y0} {k : y7} (h : (yk q t k).2.2 = true) : z6 q t = true ∧ zR k = true ∧ z6 (yk q t k).1 (yk q t k).2.1 = true ∧ yc (yk q t k).2.1 = W8 (Y1 (yc t) k) := by
 unfold yk at h ⊢
 split
 ·rename_i h1
  rw [if_pos h1] at h
  simp only [Bool.and_eq_true] at h1
  split
  ·rename_i h2
   exact ⟨h1.1, h1.2, h2, (y5k _ _ _ (y5l h1.1 h1.2)).trans (y0B h1.1 h1.2)⟩
  ·rename_i h2
   rw [if_neg h2] at h
   cases h
 ·rename_i h1
  rw [if_neg h1] at h
  cases h
theorem ygv {s : List y7} {b a : Int} (h : (Wo s b a).2.2.2.2.2 = true) : ∃ c ∈ s, c.1 = b ∧ c.2.1 = a ∧ Wo s b a = y0w c := by
 unfold Wo at h ⊢
 split
 ·rename_i h1
  rw [if_pos h1] at h
  cases h
 ·rename_i h1
  rcases Yh (atP b a) yH s 0 (Int.le_refl _) with h2 | ⟨h2, h3, h4⟩
  ·omega
  ·rw [Int.sub_zero] at h4
   unfold atP at h4
   simp only [Bool.and_eq_true, beq_iff_eq] at h4
   exact ⟨_, yW yH s _ h2 (by omega), h4.1, h4.2, rfl⟩
theorem yiv {s : List y7} {b a : Int} (h : (Wo s b a).2.2.2.2.2 = false) : ∀ c ∈ s, ¬ (c.1 = b ∧ c.2.1 = a) := by
 unfold Wo at h
 split at h
 ·rename_i h1
  intro c hc hh
  have := Wp s 0 (Int.le_refl _) h1 c hc
  unfold atP at this
  rw [hh.1, hh.2] at this
  simp at this
 ·cases h
theorem Q4 {s : List y7} (h : srt s) {x y : y7} (hx : x ∈ s) (hy : y ∈ s) (he : Y3 x y = true) : x = y := by
 obtain ⟨i, hi, rfl⟩ := List.mem_iff_getElem.1 hx
 obtain ⟨j, hj, rfl⟩ := List.mem_iff_getElem.1 hy
 have hp := List.pairwise_iff_getElem.1 h
 rcases Nat.lt_trichotomy i j with h1 | h1 | h1
 ·rw [qc (hp i j hi hj h1)] at he
  cases he
 ·subst h1
  rfl
 ·rw [y0z, qc (hp j i hj hi h1)] at he
  cases he
theorem yiw (n : List ya) (m : Nat) (hm : m < n.length) : yhf (n.take (m + 1)) = Z4 (yhf (n.take m)) (n.getD m yY) := by
 rw [List.take_succ, List.getElem?_eq_getElem hm, yF _ _ _ hm]
 exact y4o _ _
theorem y2x {n : List ya} (hn : ∀ s ∈ n, Wn s = true) (b a : Int) : ∀ m, m ≤ n.length → ((jy n b a m).2.2.2.2.2 = true → ∃ c ∈ W8 (yhf (n.take m)), c.1 = b ∧ c.2.1 = a ∧ jy n b a m = y0w c) ∧ ((jy n b a m).2.2.2.2.2 = false → (∀ c ∈ W8 (yhf (n.take m)), ¬ (c.1 = b ∧ c.2.1 = a)) ∧ jy n b a m = y5e)
 | 0, _ => ⟨fun h => by simp [jy, y5e] at h, fun _ => ⟨fun c hc => by simp [yhf, W8] at hc, rfl⟩⟩
 | m + 1, hm => by
  obtain ⟨ih1, ih2⟩ := y2x hn b a m (by omega)
  have hs : Wn (n.getD m yY) = true := hn _ (by rw [yF _ _ _ (by omega)]; exact List.getElem_mem _)
  have hsrt := yak hs
  have hall := yiw n m (by omega)
  rw [jy, hall]
  generalize n.getD m yY = s at *
  cases hok : (Wo s b a).2.2.2.2.2 with
  | true =>
   obtain ⟨c, hc, c1, c2, hce⟩ := ygv hok
   rw [if_pos rfl, hce]
   have hsame : ∀ c', c'.1 = b ∧ c'.2.1 = a → Y3 c' c = true := fun c' h => zx.2 ⟨h.1.trans c1.symm, h.2.trans c2.symm⟩
   by_cases h0 : c.2.2.1 = 0
   ·rw [if_pos (by simp [y0w, h0])]
    refine ⟨fun h => by simp [y5e] at h, fun _ => ⟨fun c' hc' hh => ?_, rfl⟩⟩
    obtain ⟨h1, h2⟩ := wm.1 hc'
    rcases (KO hsrt).1 h1 with h3 | ⟨_, h3⟩
    ·rw [Q4 hsrt h3 hc (hsame c' hh)] at h2
     exact h2 h0
    ·have := hsame c' hh
     rw [h3 c hc] at this
     cases this
   ·rw [if_neg (by simp [y0w, h0])]
    refine ⟨fun _ => ⟨c, wm.2 ⟨(KO hsrt).2 (.inl hc), h0⟩, c1, c2, rfl⟩, fun h => by simp [y0w] at h⟩
  | false =>
   rw [if_neg (by simp)]
   have hno := yiv hok
   refine ⟨fun h => ?_, fun h => ⟨fun c hc hh => ?_, (ih2 h).2⟩⟩
   ·obtain ⟨c, hc, c1, c2, hce⟩ := ih1 h
    obtain ⟨h1, h2⟩ := wm.1 hc
    refine ⟨c, wm.2 ⟨(KO hsrt).2 (.inr ⟨h1, fun y hy => ?_⟩), h2⟩, c1, c2, hce⟩
    cases hcy : Y3 c y with
    | false => rfl
    | true =>
     rw [zx] at hcy
     exact absurd ⟨hcy.1.symm.trans c1, hcy.2.symm.trans c2⟩ (hno y hy)
   ·obtain ⟨h1, h2⟩ := wm.1 hc
    rcases (KO hsrt).1 h1 with h3 | ⟨h3, _⟩
    ·exact hno c h3 hh
    ·exact (ih2 h).1 c (wm.2 ⟨h3, h2⟩) hh
theorem y5m {q : List Int} {t : List y0} (h : z6 q t = true) {b a : Int} (hb : 0 ≤ b ∧ b ≤ 15) (ha : 1 ≤ a ∧ a ≤ 60) :
  ((YP q t b a).2.2.2.2.2 = true → ∃ c ∈ yc t, c.1 = b ∧ c.2.1 = a ∧ YP q t b a = y0w c) ∧ ((YP q t b a).2.2.2.2.2 = false → ∀ c ∈ yc t, ¬ (c.1 = b ∧ c.2.1 = a)) := by
 have hP := zP h
 have hk : zR (b, a, 0, 0, 0) = true := by
  unfold zR
  simp only [zv.2 hb, zv.2 ha]
  rfl
 obtain ⟨e1, e2, e3⟩ := Q3 h hk
 obtain ⟨hA, hC⟩ := hP.around hk e1
 have hsp := qJ yf t (z5 q (b, a, 0, 0, 0)) e2
 have ht : yc t = yc (t.take (z5 q (b, a, 0, 0, 0))) ++ (yz (t.getD (z5 q (b, a, 0, 0, 0)) yf) ++ yc (t.drop (z5 q (b, a, 0, 0, 0) + 1))) := by
  conv => lhs; rw [hsp]
  rw [YD, YD, KA]
 have hrd : ye t ((z5 q (b, a, 0, 0, 0) : Nat) : Int) = t.getD (z5 q (b, a, 0, 0, 0)) yf := rfl
 have hte : YP q t b a = jy (t.getD (z5 q (b, a, 0, 0, 0)) yf) b a (List.length (show List ya from t.getD (z5 q (b, a, 0, 0, 0)) yf)) := by
  unfold YP
  rw [show Wa q (jX b a) q.length = ((z5 q (b, a, 0, 0, 0) : Nat) : Int) from e1, if_pos (zv.2 ⟨by omega, by omega⟩), hrd]
 have hn := hP.ok _ e2
 obtain ⟨n1, n2⟩ := y2x hn b a _ (Nat.le_refl _)
 rw [List.take_length] at n1 n2
 rw [hte, ht]
 refine ⟨fun hh => ?_, fun hh c hc hcc => ?_⟩
 ·obtain ⟨c, hc, r⟩ := n1 hh
  exact ⟨c, List.mem_append_right _ (List.mem_append_left _ hc), r⟩
 ·have hs : Y3 c (b, a, 0, 0, 0) = true := zx.2 hcc
  rcases List.mem_append.1 hc with hc | hc
  ·rw [qc (hA c hc)] at hs
   cases hs
  ·rcases List.mem_append.1 hc with hc | hc
   ·exact (n2 hh).1 c hc hcc
   ·rw [y0z, qc (hC c hc)] at hs
    cases hs
end Go.Proofs.YtjllpipmaejeoaaGreat.Pl
namespace Go.Proofs.YtjllpipmaejeoaaGreat.Pl
open Go.Proofs.YtjllpipmaejeoaaGreat.R Go.Proofs.YtjllpipmaejeoaaGreat.XV
def wo (fr id : Int) (x : y9) : y9 := if (x.2 == id) = true then (x.1, fr) else x
def y3D (l : List y9) (i : Nat) (id : Int) : List y9 := (l.map (wo (l.getD i yx).2 id)).eraseIdx i
def y0D (l : List y9) (id : Int) : List y9 × Bool := if yS l id < 0 then (l, false) else if YO l = true then (y3D l (yS l id).toNat id, true) else (l, false)
theorem y38 (l : List y9) (h : l.length ≤ 1048576) : Z2 l = some l := by
 unfold Z2
 rw [if_pos (by simp only [List.length_nil]; omega)]
 rfl
theorem y4r {A : Type} (p : A → Bool) : ∀ (l : List A) (i : Int), zE p l i = -1 ∨ i ≤ zE p l i ∧ zE p l i < i + l.length
 | [], _ => .inl rfl
 | a :: l, i => by
  rw [zE]
  split
  ·refine .inr ⟨Int.le_refl _, by simp only [List.length_cons]; omega⟩
  ·rcases y4r p l (i + 1) with h | ⟨h1, h2⟩
   ·exact .inl h
   ·exact .inr ⟨by omega, by simp only [List.length_cons]; omega⟩
theorem y64 (l : List y9) (id : Int) (hl : l.length ≤ 1048576) : wd (l, id) = some (y0D l id) := by
 unfold wd y0D
 simp only [Zw l id (by omega), Kw l hl, Option.bind_some]
 by_cases h0 : yS l id < 0
 ·rw [decide_eq_true h0, if_pos h0]
  simp only [cond_true, Option.bind_some]
  rw [if_pos (by simp only [List.length_nil]; omega)]
  rfl
 ·rw [decide_eq_false h0, if_neg h0]
  cases hA : YO l with
  | false =>
   simp only [cond_false, Bool.not_false, Option.bind_some, cond_true]
   rw [if_pos (by simp only [List.length_nil]; omega)]
   rfl
  | true =>
   simp only [cond_false, Bool.not_true, Option.bind_some, if_true]
   have hi1 : yS l id < (l.length : Int) := by
    rcases y4r (fun a : y9 => a.1 == id) l 0 with h | ⟨h1, h2⟩
    ·have : yS l id = -1 := h
     omega
    ·have : yS l id = zE (fun a : y9 => a.1 == id) l 0 := rfl
     omega
   generalize yS l id = i at h0 hi1
   unfold y04
   have key := Zv (step := WU (fun x4 => some (x4, true))) (fun x : List y9 × Int × Int × Int × List y9 => l.length - x.2.2.2.1.toNat) (fun x => x.1 = l ∧ x.2.1 = id ∧ x.2.2.1 = i ∧ 0 ≤ x.2.2.2.1 ∧ x.2.2.2.1 ≤ (l.length : Int) ∧ x.2.2.2.2.length ≤ x.2.2.2.1.toNat)
    (fun x => some (x.2.2.2.2 ++ (if x.2.2.2.1 ≤ i then ((l.drop x.2.2.2.1.toNat).map (wo (l.getD i.toNat yx).2 id)).eraseIdx (i - x.2.2.2.1).toNat else (l.drop x.2.2.2.1.toNat).map (wo (l.getD i.toNat yx).2 id)), true)) ?_ (l, id, i, 0, []) ⟨rfl, rfl, rfl, Int.le_refl _, by simp, by simp⟩ (by simp; omega)
   ·rw [key]
    simp only [List.nil_append]
    rw [if_pos (by omega), Int.sub_zero]
    rfl
   ·rintro again ⟨l', id', i', j, o⟩ ⟨rfl, rfl, rfl, j0, j1, ho⟩ hag
    simp only at j0 j1 ho hl hi1 h0 ⊢
    unfold WU
    by_cases hj : j < (l'.length : Int)
    ·have hw : Go.IntKind.wrap .i64 (j + 1) = j + 1 := w64 (by omega) (by omega)
     have hd := JO yx l' j j0 hj
     have e1 : (j + 1).toNat = j.toNat + 1 := by omega
     have hlen : ∀ y : y9, (List.length o + List.length ([y] : List y9)) * 16 < 140737488355328 := fun y => by simp only [List.length_cons, List.length_nil]; omega
     have hstep : ∀ y, y = wo (l'.getD i'.toNat yx).2 id' (l'.getD j.toNat yx) → (bif (j != i') then if (List.length o + List.length ([y] : List y9)) * 16 < 140737488355328 then again (l', id', i', j + 1, o ++ [y]) else none else again (l', id', i', j + 1, o)) = some (o ++ (if j ≤ i' then ((l'.drop j.toNat).map (wo (l'.getD i'.toNat yx).2 id')).eraseIdx (i' - j).toNat else (l'.drop j.toNat).map (wo (l'.getD i'.toNat yx).2 id')), true) := by
      rintro y rfl
      rw [hd, List.map_cons]
      by_cases hji : j = i'
      ·rw [show (j != i') = false by simp [hji], cond_false, if_pos (by omega), show (i' - j).toNat = 0 by omega, List.eraseIdx_zero, List.tail_cons]
       have := hag (l', id', i', j + 1, o) ⟨rfl, rfl, rfl, by simp only; omega, by simp only; omega, by simp only; omega⟩ (by simp only; omega)
       rw [this]
       simp only
       rw [if_neg (by omega)]
      ·rw [show (j != i') = true by simpa using hji, cond_true, if_pos (hlen _)]
       have := hag (l', id', i', j + 1, o ++ [wo (l'.getD i'.toNat yx).2 id' (l'.getD j.toNat yx)]) ⟨rfl, rfl, rfl, by simp only; omega, by simp only; omega, by simp only [List.length_append, List.length_cons, List.length_nil]; omega⟩ (by simp only; omega)
       rw [this]
       simp only
       by_cases hlt : j ≤ i'
       ·rw [if_pos hlt, if_pos (by omega), show (i' - j).toNat = (i' - (j + 1)).toNat + 1 by omega, List.eraseIdx_cons_succ, List.append_assoc]
        rfl
       ·rw [if_neg hlt, if_neg (by omega), List.append_assoc]
        rfl
     have hrd : yG l' j = l'.getD j.toNat yx := rfl
     simp only [hw]
     rw [decide_eq_true hj, cond_true, if_pos j0, if_pos hj]
     by_cases hid : (l'.getD j.toNat yx).2 = id'
     ·have hb : ((yG l' j).2 == id') = true := beq_iff_eq.2 hid
      rw [hb, cond_true, if_pos (by omega), if_pos hi1]
      exact hstep _ (by unfold wo; rw [if_pos (beq_iff_eq.2 hid)]; rfl)
     ·have hb : ((yG l' j).2 == id') = false := beq_eq_false_iff_ne.2 hid
      rw [hb, cond_false]
      exact hstep _ (by unfold wo; rw [if_neg (by simpa using hid)]; rfl)
    ·rw [decide_eq_false hj, cond_false, List.drop_of_length_le (by omega)]
     simp
theorem y65 (l : List y9) (id : Int) (hl : l.length ≤ 1048576) : kr (l, id) = some (y0D l id) := by
 unfold kr y0D
 simp only [kv l id (by omega), y1q l hl, y38 l hl, Option.bind_some]
 by_cases h0 : yS l id < 0
 ·rw [decide_eq_true h0, if_pos h0]
  rfl
 ·rw [decide_eq_false h0, if_neg h0]
  cases hA : YO l with
  | false => rfl
  | true =>
   simp only [cond_false, Bool.not_true, Option.bind_some, if_true]
   have hi1 : yS l id < (l.length : Int) := by
    rcases y4r (fun a : y9 => a.1 == id) l 0 with h | ⟨h1, h2⟩
    ·have : yS l id = -1 := h
     omega
    ·have : yS l id = zE (fun a : y9 => a.1 == id) l 0 := rfl
     omega
   generalize yS l id = i at h0 hi1
   unfold y0j
   have key := Zv (step := kq (fun x5 => Option.bind (zZ (x5.2, x5.1, (Go.IntKind.wrap .i64 (x5.1 + (1 : Int))))) fun r6 => some (r6, true))) (fun x : List y9 × Int × Int × Int × Int × List y9 => l.length - x.2.2.2.2.1.toNat) (fun x => x.1 = l ∧ x.2.1 = id ∧ x.2.2.1 = i ∧ x.2.2.2.1 = ((List.length l : Nat) : Int) ∧ 0 ≤ x.2.2.2.2.1 ∧ x.2.2.2.2.1 ≤ (l.length : Int) ∧ x.2.2.2.2.2.length = l.length)
    (fun x => some ((x.2.2.2.2.2.take x.2.2.2.2.1.toNat ++ (x.2.2.2.2.2.drop x.2.2.2.2.1.toNat).map (wo (l.getD i.toNat yx).2 id)).eraseIdx i.toNat, true)) ?_ (l, id, i, ((List.length l : Nat) : Int), 0, l) ⟨rfl, rfl, rfl, rfl, Int.le_refl _, by simp, rfl⟩ (by simp; omega)
   ·rw [key]
    rfl
   ·rintro again ⟨l', id', i', n, j, o⟩ ⟨rfl, rfl, rfl, hn, j0, j1, ho⟩ hag
    simp only at hn j0 j1 ho hl hi1 h0 hag ⊢
    subst hn
    unfold kq
    by_cases hj : j < (l'.length : Int)
    ·have hw : Go.IntKind.wrap .i64 (j + 1) = j + 1 := w64 (by omega) (by omega)
     have hd := JO yx o j j0 (by omega)
     have e1 : (j + 1).toNat = j.toNat + 1 := by omega
     have hjo : j < ((List.length o : Nat) : Int) := by omega
     have hnext : ∀ o', o' = o.set j.toNat (wo (l'.getD i'.toNat yx).2 id' (o.getD j.toNat yx)) → again (l', id', i', ((List.length l' : Nat) : Int), j + 1, o') = some ((o.take j.toNat ++ (o.drop j.toNat).map (wo (l'.getD i'.toNat yx).2 id')).eraseIdx i'.toNat, true) := by
      rintro o' rfl
      rw [hag (l', id', i', ((List.length l' : Nat) : Int), j + 1, o.set j.toNat (wo (l'.getD i'.toNat yx).2 id' (o.getD j.toNat yx))) ⟨rfl, rfl, rfl, rfl, by simp only; omega, by simp only; omega, by simpa using ho⟩ (by simp only; omega)]
      simp only
      rw [hd, List.map_cons, e1, List.take_succ_eq_append_getElem (by simp; omega), List.take_set_of_le (Nat.le_refl _), List.drop_set_of_lt (by omega)]
      simp
     simp only [hw]
     rw [decide_eq_true hj, cond_true, if_pos j0, if_pos hjo]
     by_cases hid : (o.getD j.toNat yx).2 = id'
     ·have hb : ((yG o j).2 == id') = true := beq_iff_eq.2 hid
      rw [hb, cond_true, if_pos (by omega), if_pos hi1, if_pos j0, if_pos hjo]
      exact hnext _ (by unfold wo; rw [if_pos (beq_iff_eq.2 hid)]; rfl)
     ·have hb : ((yG o j).2 == id') = false := beq_eq_false_iff_ne.2 hid
      rw [hb, cond_false]
      refine hnext _ ?_
      unfold wo
      rw [if_neg (by simpa using hid), yF _ _ _ (by omega), List.set_getElem_self]
    ·have hjl : j.toNat = o.length := by omega
     have hwi : Go.IntKind.wrap .i64 (i' + 1) = i' + 1 := w64 (by omega) (by omega)
     rw [decide_eq_false hj, cond_false, hjl, List.drop_length, List.take_length, List.map_nil, List.append_nil]
     simp only [hwi]
     unfold zZ
     simp only
     rw [if_pos (by omega), if_pos (by omega), if_pos (by omega)]
     simp only [Option.bind_some]
     rw [show (i' + 1).toNat = i'.toNat + 1 by omega, List.eraseIdx_eq_take_drop_succ]
def y19 (cs : List y8) (i : Int) : List y8 := if zc cs = true ∧ 0 ≤ i ∧ i ≤ 23 ∧ (cs.getD i.toNat yQ).2.1 = true then cs.set i.toNat (Int.tmod (Go.IntKind.wrap .i64 ((cs.getD i.toNat yQ).1 + 1)) 1000, false, 0) else cs
theorem y5n (cs : List y8) (i : Int) : (y19 cs i).length = cs.length := by
 unfold y19
 split
 ·simp
 ·rfl
theorem Ki {cs : List y8} (h : zc cs = true) : cs.length = 24 := by
 unfold zc at h
 simp only [Bool.and_eq_true, beq_iff_eq] at h
 omega
theorem Q5 {cs : List y8} {i : Int} (h : ¬ (zc cs = true ∧ 0 ≤ i ∧ i ≤ 23 ∧ (cs.getD i.toNat yQ).2.1 = true)) : y19 cs i = cs := if_neg h
theorem y5o {cs : List y8} {i : Int} (h : zc cs = true ∧ 0 ≤ i ∧ i ≤ 23 ∧ (cs.getD i.toNat yQ).2.1 = true) : y19 cs i = cs.set i.toNat (Int.tmod (Go.IntKind.wrap .i64 ((cs.getD i.toNat yQ).1 + 1)) 1000, false, 0) := if_pos h
theorem vc (cs : List y8) (i : Int) (hc : cs.length ≤ 1048576) : ZR (cs, i) = some (y19 cs i) := by
 have e1 : Y8 cs = some cs := by
  unfold Y8
  rw [if_pos (by simp only [List.length_nil]; omega)]
  rfl
 unfold ZR
 simp only [e1, JP cs hc, ZG, Option.bind_some]
 cases hk : zc cs with
 | false =>
  rw [Q5 fun h => by rw [hk] at h; cases h.1]
  rfl
 | true =>
  have h24 := Ki hk
  have hw : Go.IntKind.wrap .i64 ((cs.length : Int) - 1) = 23 := by rw [w64 (by omega) (by omega)]; omega
  simp only [hw, cond_true, Option.bind_some]
  cases hi : inR i 0 23 with
  | false =>
   have : ¬ (0 ≤ i ∧ i ≤ 23) := fun h => by rw [zv.2 h] at hi; cases hi
   rw [Q5 fun h => this ⟨h.2.1, h.2.2.1⟩]
   rfl
  | true =>
   obtain ⟨i0, i1⟩ := zv.1 hi
   rw [cond_true, if_pos i0, if_pos (by omega)]
   have hrd : yA cs i = cs.getD i.toNat yQ := rfl
   rw [hrd]
   cases hu : (cs.getD i.toNat yQ).2.1 with
   | false =>
    rw [Q5 fun h => by have := h.2.2.2; rw [hu] at this; cases this]
    rfl
   | true =>
    simp only [Option.bind_some, cond_true]
    rw [if_pos i0, if_pos (by omega), if_pos i0, if_pos (by omega), y5o ⟨hk, i0, i1, hu⟩]
theorem y3Z (cs : List y8) (i : Int) (hc : cs.length ≤ 1048576) : JN (cs, i) = some (y19 cs i) := by
 have e1 : YF cs = some cs := by
  unfold YF
  rw [if_pos (by simp only [List.length_nil]; omega)]
  rfl
 unfold JN
 simp only [e1, y0o cs hc, jh, Option.bind_some]
 cases hk : zc cs with
 | false =>
  rw [Q5 fun h => by rw [hk] at h; cases h.1]
  rfl
 | true =>
  have h24 := Ki hk
  simp only [Bool.not_true, cond_false, Option.bind_some]
  cases hi : inR i 0 23 with
  | false =>
   have : ¬ (0 ≤ i ∧ i ≤ 23) := fun h => by rw [zv.2 h] at hi; cases hi
   rw [Q5 fun h => this ⟨h.2.1, h.2.2.1⟩]
   rfl
  | true =>
   obtain ⟨i0, i1⟩ := zv.1 hi
   rw [Bool.not_true, cond_false, if_pos i0, if_pos (by omega)]
   have hrd : yA cs i = cs.getD i.toNat yQ := rfl
   rw [hrd]
   cases hu : (cs.getD i.toNat yQ).2.1 with
   | false =>
    rw [Q5 fun h => by have := h.2.2.2; rw [hu] at this; cases this]
    rfl
   | true =>
    simp only [Option.bind_some, Bool.not_true, cond_false]
    rw [if_pos i0, if_pos (by omega), if_pos i0, if_pos (by omega), y5o ⟨hk, i0, i1, hu⟩]
end Go.Proofs.YtjllpipmaejeoaaGreat.Pl
namespace Go.Proofs.YtjllpipmaejeoaaGreat.Pl
open Go.Proofs.YtjllpipmaejeoaaGreat.R Go.Proofs.YtjllpipmaejeoaaGreat.XV
def y3E (l : List y9) (vs : List yh) (id : Int) : Bool := y0s vs id && ((zg l id).length : Int) == 1
def zk (q : List Int) (t : List y0) (l : List y9) (vs : List yh) (step : Int) (k : y7) : Bool :=
 if step = 1 then !y1I t l vs k else if step = 2 then (k.2.2.1 == 2) && !(y3z t l k.1 k.2.1).1 else
  y3E l vs k.2.1 && !(YP q t k.1 ((zg l k.2.1).getD 0 0)).2.2.2.2.2
theorem yix (l : List y9) (id : Int) : ∀ x ∈ zg l id, ∃ a ∈ l, a.1 = x := by
 have : ∀ (l : List y9) (s : List Int) (x : Int), x ∈ l.foldl (qH id) s → x ∈ s ∨ ∃ a ∈ l, a.1 = x := by
  intro l
  induction l with
  | nil => intro s x h; exact .inl h
  | cons a l ih =>
   intro s x h
   rw [List.foldl_cons] at h
   rcases ih _ x h with h | ⟨b, hb, e⟩
   ·unfold qH at h
    split at h
    ·rcases List.mem_append.1 h with h | h
     ·exact .inl h
     ·exact .inr ⟨a, by simp, (by simpa using h : x = a.1).symm⟩
    ·exact .inl h
   ·exact .inr ⟨b, by simp [hb], e⟩
 intro x hx
 rcases this l [] x hx with h | h
 ·simp at h
 ·exact h
theorem ydp {A : Type} {p : A → Bool} : ∀ (l : List A) (i : Int), Yq (fun _ a => p a) l i = false → ∀ a ∈ l, p a = false
 | b :: l, i, h, a, ha => by
  rw [Yq, Bool.or_eq_false_iff] at h
  rcases List.mem_cons.1 ha with rfl | ha
  ·exact h.1
  ·exact ydp l (i + 1) h.2 a ha
theorem yiy {l : List y9} (h : YO l = true) : ∀ a ∈ l, 1 ≤ a.1 := by
 unfold YO y31 at h
 simp only [Bool.and_eq_true, Bool.not_eq_true'] at h
 have h1 := h.1
 rw [ycb, Bool.or_eq_false_iff] at h1
 intro a ha
 have := ydp (p := fun a : y9 => !inR a.1 1 60) l 0 h1.1 a ha
 simp only [Bool.not_eq_false'] at this
 exact (zv.1 this).1
section
variable (q : List Int) (t : List y0) (l : List y9) (cs : List y8) (vs : List yh) (z : Int)
theorem y5p (ht : TOk t) (hq : q.length ≤ 1048576) (hl : l.length ≤ 1048576) (hv : vs.length ≤ 1048576) (hpos : ∀ a ∈ l, 1 ≤ a.1) (step : Int) (k1 k2 k3 k4 k5 : Int) : WR (q, t, l, cs, vs, z, step, k1, k2, k3, k4, k5) = some (zk q t l vs step (k1, k2, k3, k4, k5)) := by
 unfold WR zk
 simp only [Bool.cond_eq_ite, beq_iff_eq, y2Z q t l cs vs z k1 k2 k3 k4 k5 ht hl hv, y2p q t l k1 k2 ht hl, Option.bind_some]
 by_cases h1 : step = 1
 ·simp only [h1, if_true]
 by_cases h2 : step = 2
 ·subst h2
  simp only [if_true, if_neg (show ¬ (2 : Int) = 1 by omega)]
  by_cases h3 : k3 = 2
  ·have : (k3 == 2) = true := by simp [h3]
   rw [this, if_pos h3]
   rfl
  ·have : (k3 == 2) = false := by simpa using h3
   rw [this, if_neg h3]
   rfl
 simp only [h1, h2, if_false]
 unfold Kr Zi y3E
 simp only [Kx l k2 hl, y0t q t l cs vs z k2 hv, Option.bind_some]
 cases y0s vs k2
 ·rfl
 by_cases hk : ((zg l k2).length : Int) = 1
 ·have g1 : (((zg l k2).length : Int) != 1) = false := by simp [hk]
  have g2 : (((zg l k2).length : Int) == 1) = true := by simp [hk]
  have hlt : (0 : Int) < ((zg l k2).length : Int) := by omega
  have hne : ((zg l k2).getD 0 0 == 0) = false := by
   have hm : (zg l k2).getD 0 0 ∈ zg l k2 := yW 0 (zg l k2) 0 (Int.le_refl _) hlt
   obtain ⟨a, ha, e⟩ := yix l k2 _ hm
   have := hpos a ha
   simp only [beq_eq_false_iff_ne, ne_eq]
   omega
  have hx : zt (zg l k2) 0 = (zg l k2).getD 0 0 := rfl
  simp only [g1, g2, hlt, Bool.not_true, cond_false, cond_true, Option.bind_some, Int.le_refl, if_true, hx, hne, Kz q t k1 _ ht hq, Bool.true_and, Bool.and_self, Bool.and_true, Bool.true_and]
 ·have g1 : (((zg l k2).length : Int) != 1) = true := by simpa using hk
  have g2 : (((zg l k2).length : Int) == 1) = false := by simpa using hk
  simp only [g1, g2]
  rfl
theorem y5q (ht : TOk t) (hq : q.length ≤ 1048576) (hl : l.length ≤ 1048576) (hv : vs.length ≤ 1048576) (step : Int) (k1 k2 k3 k4 k5 : Int) : wN (q, t, l, cs, vs, z, step, k1, k2, k3, k4, k5) = some (zk q t l vs step (k1, k2, k3, k4, k5)) := by
 unfold wN zk
 simp only [Bool.cond_eq_ite, beq_iff_eq, y30 q t l cs vs z k1 k2 k3 k4 k5 ht hl hv, y8Q q t l k1 k2 ht hl, Option.bind_some]
 by_cases h1 : step = 1
 ·simp only [h1, if_true]
 by_cases h2 : step = 2
 ·subst h2
  simp only [if_true, if_neg (show ¬ (2 : Int) = 1 by omega)]
  by_cases h3 : k3 = 2
  ·have : (k3 == 2) = true := by simp [h3]
   rw [this, if_pos h3]
   rfl
  ·have : (k3 == 2) = false := by simpa using h3
   rw [this, if_neg h3]
   rfl
 simp only [h1, h2, if_false]
 unfold y3E
 simp only [Ky l k2 hl, y3A q t l cs vs z k2 hv, Option.bind_some]
 cases y0s vs k2
 ·rfl
 by_cases hk : ((zg l k2).length : Int) = 1
 ·have g1 : (((zg l k2).length : Int) != 1) = false := by simp [hk]
  have g2 : (((zg l k2).length : Int) == 1) = true := by simp [hk]
  have hlt : (0 : Int) < ((zg l k2).length : Int) := by omega
  have hx : zt (zg l k2) 0 = (zg l k2).getD 0 0 := rfl
  simp only [g1, g2, hlt, Bool.not_true, Bool.false_eq_true, if_false, Option.bind_some, Int.le_refl, if_true, hx, y1v q t k1 _ ht hq, Bool.true_and, Bool.and_self, Bool.and_true, Bool.true_and]
 ·have g1 : (((zg l k2).length : Int) != 1) = true := by simpa using hk
  have g2 : (((zg l k2).length : Int) == 1) = false := by simpa using hk
  simp only [g1, g2]
  rfl
def y5r (id : Int) (_ : Int) (k : y7) : Bool := k.2.1 == id
def ydq (ks : List y7) (l : List y9) (vs : List yh) (a : y9) : Bool := !Yq (y5r a.1) ks 0 && (y0s vs a.1 && decide (((zg l a.1).length : Int) ≤ 1))
theorem ycj (ht : TOk t) (hl : l.length ≤ 1048576) (hv : vs.length ≤ 1048576) (a : y9) : WS (q, t, l, cs, vs, z, a.1) = some (ydq (yc t) l vs a) := by
 unfold WS y03 ydq
 have hk := ht.keys
 have e : yP (q, t) = some (yc t) := YG q t (by have := ht.len; omega) ht.nodes ht.sum
 simp only [e, Option.bind_some]
 generalize yc t = ks at hk
 refine (zQ (step := Jr _ _) (fun i => (a.1, i, q, t, l, cs, vs, z, ks)) (y5r a.1) (some false) (some (y0s vs a.1 && decide (((zg l a.1).length : Int) ≤ 1))) yH ks (by omega) ?_ ?_).trans ?_
 ·intro again i h0 h1
  have hw : Go.IntKind.wrap .i64 (i + 1) = i + 1 := w64 (by omega) (by omega)
  unfold Jr y5r
  have hx : ks.getD i.toNat yH = y6 ks i := rfl
  rw [hx]
  simp only [Bool.cond_eq_ite, decide_eq_true_eq, h0, h1, if_true, hw]
 ·intro again i hi
  unfold Jr
  simp only [Bool.cond_eq_ite, decide_eq_true_eq, if_neg hi, y0t q t l cs vs z a.1 hv, Kx l a.1 hl, Option.bind_some]
  cases y0s vs a.1 <;> rfl
 ·cases Yq (y5r a.1) ks 0 <;> rfl
theorem y5s (ks : List y7) (id : Int) (hk : ks.length ≤ 1048576) : wO (ks, id) = some (Yq (y5r id) ks 0) := by
 unfold wO Qu
 refine (zQ (step := jR _ _) (fun i => (id, ks, (ks.length : Int), i)) (y5r id) (some true) (some false) yH ks (by omega) ?_ ?_).trans ?_
 ·intro again i h0 h1
  have hw : Go.IntKind.wrap .i64 (i + 1) = i + 1 := w64 (by omega) (by omega)
  unfold jR y5r
  have hx : ks.getD i.toNat yH = y6 ks i := rfl
  rw [hx]
  simp only [Bool.cond_eq_ite, decide_eq_true_eq, h0, h1, if_true, hw]
 ·intro again i hi
  unfold jR
  simp only [Bool.cond_eq_ite, decide_eq_true_eq, if_neg hi]
 ·cases Yq (y5r id) ks 0 <;> rfl
def y3F (q : List Int) (t : List y0) (l : List y9) (vs : List yh) (_ : Int) (_ : Unit) (step : Int) : Except (Option (Int × Int)) Unit :=
 if zE (zk q t l vs step) (yc t) 0 < 0 then .ok () else .error (some (step, zE (zk q t l vs step) (yc t) 0))
def Q6 (t : List y0) (l : List y9) (vs : List yh) : Int × Int :=
 if zE (ydq (yc t) l vs) l 0 < 0 then (0, 0) else (4, zE (ydq (yc t) l vs) l 0)
def y2y (q : List Int) (t : List y0) (l : List y9) (cs : List y8) (vs : List yh) (z : Int) : Option (Int × Int) :=
 if yr q t l cs vs z = true then y9f (y3F q t l vs) (fun _ => some (Q6 t l vs)) ([1, 2, 3] : List Int) 0 () else some (0, 0)
theorem yn2 (i : Int) (h0 : 0 ≤ i) (h1 : i < 3) : ([1, 2, 3] : List Int).getD i.toNat 0 = i + 1 := by
 have : i = 0 ∨ i = 1 ∨ i = 2 := by omega
 rcases this with rfl | rfl | rfl <;> rfl
theorem yam (ht : TOk t) (hq : q.length ≤ 1048576) (hl : l.length ≤ 1048576) (hc : cs.length ≤ 1048576) (hv : vs.length ≤ 1048576) (hvn : ∀ v ∈ vs, ByteArray.size v.1 ≤ maxLen) : Js (q, t, l, cs, vs, z) = y2y q t l cs vs z := by
 unfold Js y2y
 have hk := ht.keys
 have e : yP (q, t) = some (yc t) := YG q t (by have := ht.len; omega) ht.nodes ht.sum
 simp only [y1t q t l cs vs z ht hl hc hv hvn, e, Option.bind_some]
 cases hp : yr q t l cs vs z
 ·rfl
 have hpos : ∀ a ∈ l, 1 ≤ a.1 := by
  refine yiy ?_
  unfold yr at hp
  simp only [Bool.and_eq_true] at hp
  exact hp.2.1
 simp only [Bool.not_true, cond_false, if_true]
 unfold qt
 refine y54 (step := ZT _ _) (fun i (_ : Unit) => (i + 1, q, t, l, cs, vs, z, yc t)) (y3F q t l vs) (fun _ => some (Q6 t l vs)) 0 ([1, 2, 3] : List Int) (by decide) (fun _ _ => True) (fun again i s h0 h1 _ => ⟨?_, fun _ _ => trivial⟩) ?_ () trivial
 ·have h1' : i < 3 := h1
  rw [yn2 i h0 h1']
  have hw : Go.IntKind.wrap .i64 (i + 1 + 1) = i + 1 + 1 := w64 (by omega) (by omega)
  unfold ZT y3F
  have hle : i + 1 ≤ 3 := by omega
  simp only [Bool.cond_eq_ite, decide_eq_true_eq, hle, if_true]
  unfold qs
  refine (Yz (step := ZS _ _) (fun j => (i + 1, j, q, t, l, cs, vs, z, yc t)) (zk q t l vs (i + 1)) (fun j => some (i + 1, j)) (again (i + 1 + 1, q, t, l, cs, vs, z, yc t)) yH (yc t) (by omega) ?_ ?_).trans ?_
  ·intro again' j j0 j1
   have hwj : Go.IntKind.wrap .i64 (j + 1) = j + 1 := w64 (by omega) (by omega)
   unfold ZS
   obtain ⟨⟨x1, x2, x3, x4, x5⟩, hx⟩ : ∃ x, y6 (yc t) j = x := ⟨_, rfl⟩
   have hx' : (yc t).getD j.toNat yH = (x1, x2, x3, x4, x5) := hx
   rw [hx']
   simp only [Bool.cond_eq_ite, decide_eq_true_eq, j0, j1, if_true, hwj, hx, y5p q t l cs vs z ht hq hl hv hpos (i + 1) x1 x2 x3 x4 x5, Option.bind_some]
  ·intro again' j hj
   unfold ZS
   simp only [Bool.cond_eq_ite, decide_eq_true_eq, if_neg hj, hw]
  ·split <;> rfl
 ·intro again i s hi
  have hi' : ¬ i < 3 := hi
  have hle : ¬ i + 1 ≤ 3 := by omega
  unfold ZT
  simp only [Bool.cond_eq_ite, decide_eq_true_eq, if_neg hle]
  unfold VE Q6
  refine (Yz (step := Zj _ _) (fun j => (j, q, t, l, cs, vs, z)) (ydq (yc t) l vs) (fun j => some (4, j)) (some (0, 0)) yx l (by omega) ?_ ?_).trans ?_
  ·intro again' j j0 j1
   have hwj : Go.IntKind.wrap .i64 (j + 1) = j + 1 := w64 (by omega) (by omega)
   unfold Zj
   have hx : l.getD j.toNat yx = yG l j := rfl
   rw [hx]
   simp only [Bool.cond_eq_ite, decide_eq_true_eq, j0, j1, if_true, hwj, ycj q t l cs vs z ht hl hv (yG l j), Option.bind_some]
  ·intro again' j hj
   unfold Zj
   simp only [Bool.cond_eq_ite, decide_eq_true_eq, if_neg hj]
  ·split <;> rfl
theorem y3G (ht : TOk t) (hq : q.length ≤ 1048576) (hl : l.length ≤ 1048576) (hc : cs.length ≤ 1048576) (hv : vs.length ≤ 1048576) (hvn : ∀ v ∈ vs, ByteArray.size v.1 ≤ maxLen) : Z1 (q, t, l, cs, vs, z) = y2y q t l cs vs z := by
 unfold Z1 y2y
 have hk := ht.keys
 have e : za (q, t) = some (yc t) := jU q t (by have := ht.len; omega) ht.nodes ht.sum
 simp only [y1u q t l cs vs z ht hl hc hv hvn, e, Option.bind_some]
 cases hp : yr q t l cs vs z
 ·rfl
 simp only [Bool.not_true, cond_false, if_true]
 unfold qD
 refine y54 (step := jd _ _) (fun i (_ : Unit) => (3, i, q, t, l, cs, vs, z, yc t, [1, 2, 3])) (y3F q t l vs) (fun _ => some (Q6 t l vs)) 0 ([1, 2, 3] : List Int) (by decide) (fun _ _ => True) (fun again i s h0 h1 _ => ⟨?_, fun _ _ => trivial⟩) ?_ () trivial
 ·have h1' : i < 3 := h1
  have hx : zt ([1, 2, 3] : List Int) i = i + 1 := yn2 i h0 h1'
  have h1'' : i < ((([1, 2, 3] : List Int).length : Nat) : Int) := h1
  rw [yn2 i h0 h1']
  have hw : Go.IntKind.wrap .i64 (i + 1) = i + 1 := w64 (by omega) (by omega)
  unfold jd y3F
  simp only [Bool.cond_eq_ite, decide_eq_true_eq, h0, h1', h1'', hx, if_true]
  unfold qC
  refine (Yz (step := jc _ _) (fun j => (i + 1, 3, i, ((yc t).length : Int), j, q, t, l, cs, vs, z, yc t, [1, 2, 3])) (zk q t l vs (i + 1)) (fun j => some (i + 1, j)) (again (3, i + 1, q, t, l, cs, vs, z, yc t, [1, 2, 3])) yH (yc t) (by omega) ?_ ?_).trans ?_
  ·intro again' j j0 j1
   have hwj : Go.IntKind.wrap .i64 (j + 1) = j + 1 := w64 (by omega) (by omega)
   unfold jc
   obtain ⟨⟨x1, x2, x3, x4, x5⟩, hx⟩ : ∃ x, y6 (yc t) j = x := ⟨_, rfl⟩
   have hx' : (yc t).getD j.toNat yH = (x1, x2, x3, x4, x5) := hx
   rw [hx']
   simp only [Bool.cond_eq_ite, decide_eq_true_eq, j0, j1, if_true, hwj, hx, y5q q t l cs vs z ht hq hl hv (i + 1) x1 x2 x3 x4 x5, Option.bind_some]
  ·intro again' j hj
   unfold jc
   simp only [Bool.cond_eq_ite, decide_eq_true_eq, if_neg hj, hw]
  ·split <;> rfl
 ·intro again i s hi
  have hi' : ¬ i < 3 := hi
  unfold jd
  simp only [Bool.cond_eq_ite, decide_eq_true_eq, if_neg hi']
  unfold VJ Q6
  refine (Yz (step := Zs _ _) (fun j => (l, (l.length : Int), j, q, t, l, cs, vs, z, yc t)) (ydq (yc t) l vs) (fun j => some (4, j)) (some (0, 0)) yx l (by omega) ?_ ?_).trans ?_
  ·intro again' j j0 j1
   have hwj : Go.IntKind.wrap .i64 (j + 1) = j + 1 := w64 (by omega) (by omega)
   unfold Zs ydq
   have hx : l.getD j.toNat yx = yG l j := rfl
   rw [hx]
   simp only [Bool.cond_eq_ite, decide_eq_true_eq, j0, j1, if_true, hwj, y3A q t l cs vs z _ hv, Ky l _ hl, y5s (yc t) _ hk, Option.bind_some]
   cases y0s vs (yG l j).1 <;> cases Yq (y5r (yG l j).1) (yc t) 0 <;> by_cases hkk : ((zg l (yG l j).1).length : Int) ≤ 1 <;> simp [hkk]
  ·intro again' j hj
   unfold Zs
   simp only [Bool.cond_eq_ite, decide_eq_true_eq, if_neg hj]
  ·split <;> rfl
theorem yan {S A R : Type} (g : Int → S → A → Except (Option R) S) (k : S → Option R) (hg : ∀ i s a r, g i s a = .error r → ∃ x, r = some x) (hk : ∀ s, ∃ x, k s = some x) : ∀ (l : List A) (i : Int) (s : S), ∃ x, y9f g k l i s = some x
 | [], i, s => hk s
 | a :: l, i, s => by
  rw [y9f]
  cases h : g i s a with
  | error r => exact hg i s a r h
  | ok s' => exact yan g k hg hk l (i + 1) s'
theorem y6R : ∃ r, y2y q t l cs vs z = some r := by
 unfold y2y
 split
 ·refine yan _ _ (fun i s a r h => ?_) (fun s => ⟨_, rfl⟩) _ _ _
  unfold y3F at h
  split at h
  ·cases h
  ·injection h with h
   exact ⟨_, h.symm⟩
 ·exact ⟨_, rfl⟩
end
end Go.Proofs.YtjllpipmaejeoaaGreat.Pl
namespace Go.Proofs.YtjllpipmaejeoaaGreat.Pl
open Go.Proofs.YtjllpipmaejeoaaGreat.R Go.Proofs.YtjllpipmaejeoaaGreat.XV
structure SP (q : List yb) (t : List y0) (l : List y9) (cs : List y8) (vs : List yh) : Prop where
 S : small q t l cs vs
 N : ∀ v ∈ vs, ByteArray.size v.1 ≤ maxLen
structure TQ (q : List yb) (t : List y0) : Prop where
 T : TOk t
 Q : ∀ n ∈ t, y3X n
 q : q.length ≤ 1048576
theorem SP.tq {q : List yb} {t : List y0} {l : List y9} {cs : List y8} {vs : List yh} (h : SP q t l cs vs) : TQ q t :=
 ⟨⟨h.S.2.1, fun n hn => by have := (vt h.S.2.2.1 hn).1; omega, h.S.2.2.1⟩, fun n hn => vt h.S.2.2.1 hn, h.S.1⟩
theorem TQ.sp {q q' : List yb} {t t' : List y0} {l l' : List y9} {cs cs' : List y8} {vs : List yh} (h : TQ q' t') (h2 : SP q t l cs vs) (hl : l'.length ≤ 1048576) (hc : cs'.length ≤ 1048576) : SP q' t' l' cs' vs :=
 ⟨⟨h.q, h.T.len, h.T.sum, hl, hc, h2.S.2.2.2.2.2⟩, h2.N⟩
theorem TS.tq {q : List yb} {t : List y0} (h : TS t) (hq : q.length ≤ 1048576) : TQ q t := ⟨h.ok, fun n hn => (h.node n hn).q, hq⟩
theorem Kj {q : List yb} {t : List y0} (k : y7) (h : TQ q t) : TQ (yk q t k).1 (yk q t k).2.1 := by
 unfold yk
 split
 ·rename_i hh
  rw [Bool.and_eq_true] at hh
  split
  ·rename_i hj
   have hT := y2v hj
   have := (jW hj)
   exact hT.tq (by simp only; omega)
  ·exact h
 ·exact h
def jj (k : y7) : y7 := (k.1, k.2.1, 0, 0, 0)
def jz (q : List yb) (t : List y0) (cs : List y8) (k : y7) : List y8 := if (YP q t k.1 k.2.1).2.2.2.2.2 = true ∧ (YP q t k.1 k.2.1).2.2.1 = 1 then y19 cs (YP q t k.1 k.2.1).2.2.2.1 else cs
theorem Q7 (q : List yb) (t : List y0) (cs : List y8) (k : y7) : (jz q t cs k).length = cs.length := by
 unfold jz
 split
 ·exact y5n _ _
 ·rfl
abbrev PO : Type := List yb × List y0 × List y9 × List y8 × List yh × Int
section
variable (q : List yb) (t : List y0) (l : List y9) (cs : List y8) (vs : List yh) (z : Int)
def Yk (t : List y0) (i : Int) : y7 := (yc t).getD i.toNat yH
def Yg (step i : Int) : PO × Bool :=
 if step = 1 ∨ step = 2 then (((yk q t (jj (Yk t i))).1, (yk q t (jj (Yk t i))).2.1, l, jz q t cs (Yk t i), vs, z), (yk q t (jj (Yk t i))).2.2)
 else if step = 3 then
  (((yk (yk q t (jj (Yk t i))).1 (yk q t (jj (Yk t i))).2.1 ((Yk t i).1, (zg l (Yk t i).2.1).getD 0 0, (Yk t i).2.2)).1,
   (yk (yk q t (jj (Yk t i))).1 (yk q t (jj (Yk t i))).2.1 ((Yk t i).1, (zg l (Yk t i).2.1).getD 0 0, (Yk t i).2.2)).2.1, l, cs, vs, z),
   (yk q t (jj (Yk t i))).2.2 && (yk (yk q t (jj (Yk t i))).1 (yk q t (jj (Yk t i))).2.1 ((Yk t i).1, (zg l (Yk t i).2.1).getD 0 0, (Yk t i).2.2)).2.2)
 else ((q, t, (y0D l (l.getD i.toNat yx).1).1, cs, vs, z), (y0D l (l.getD i.toNat yx).1).2)
noncomputable def y66 (p : PO) : Bool := yr p.1 p.2.1 p.2.2.1 p.2.2.2.1 p.2.2.2.2.1 p.2.2.2.2.2
noncomputable def yck (p : PO) (r : PO × Bool) : PO × Bool := if (r.2 && y66 r.1) = true then (r.1, true) else (p, false)
noncomputable def VK : PO × Bool := match y2y q t l cs vs z with
 | some (step, i) => if step = 0 then ((q, t, l, cs, vs, z), false) else yck (q, t, l, cs, vs, z) (Yg q t l cs vs z step i)
 | none => ((q, t, l, cs, vs, z), false)
def y1L (r : PO × Bool) : List yb × List y0 × List y9 × List y8 × List yh × Int × Bool := (r.1.1, r.1.2.1, r.1.2.2.1, r.1.2.2.2.1, r.1.2.2.2.2.1, r.1.2.2.2.2.2, r.2)
theorem y6S {step i : Int} (h : y2y q t l cs vs z = some (step, i)) : step = 0 ∨ ((step = 1 ∨ step = 2 ∨ step = 3) ∧ 0 ≤ i ∧ i < ((yc t).length : Int) ∧ zk q t l vs step (Yk t i) = true) ∨ (step = 4 ∧ 0 ≤ i ∧ i < (l.length : Int)) := by
 have hfind : ∀ s, (s = 1 ∨ s = 2 ∨ s = 3) → ¬ zE (zk q t l vs s) (yc t) 0 < 0 → (step, i) = (s, zE (zk q t l vs s) (yc t) 0) → step = 0 ∨ ((step = 1 ∨ step = 2 ∨ step = 3) ∧ 0 ≤ i ∧ i < ((yc t).length : Int) ∧ zk q t l vs step (Yk t i) = true) ∨ (step = 4 ∧ 0 ≤ i ∧ i < (l.length : Int)) := by
  intro s hs h0 he
  injection he with h1 h2
  subst h1 h2
  rcases Yh (zk q t l vs step) yH (yc t) 0 (Int.le_refl _) with h | ⟨h1, h2, h3⟩
  ·omega
  ·rw [Int.sub_zero] at h3
   exact .inr (.inl ⟨hs, h1, by omega, h3⟩)
 unfold y2y at h
 split at h
 ·simp only [y9f, y3F] at h
  by_cases h1 : zE (zk q t l vs 1) (yc t) 0 < 0
  ·simp only [if_pos h1] at h
   by_cases h2 : zE (zk q t l vs 2) (yc t) 0 < 0
   ·simp only [if_pos h2] at h
    by_cases h3 : zE (zk q t l vs 3) (yc t) 0 < 0
    ·simp only [if_pos h3] at h
     injection h with h
     unfold Q6 at h
     split at h
     ·injection h with h4 h5
      exact .inl h4.symm
     ·rename_i h4
      injection h with h5 h6
      rcases y4r (ydq (yc t) l vs) l 0 with h | ⟨h7, h8⟩
      ·omega
      ·exact .inr (.inr ⟨h5.symm, by omega, by omega⟩)
    ·simp only [if_neg h3] at h
     injection h with h
     exact hfind 3 (by simp) h3 h.symm
   ·simp only [if_neg h2] at h
    injection h with h
    exact hfind 2 (by simp) h2 h.symm
  ·simp only [if_neg h1] at h
   injection h with h
   exact hfind 1 (by simp) h1 h.symm
 ·injection h with h
  injection h with h1 h2
  exact .inl h1.symm
variable {q t l cs vs} (h : SP q t l cs vs)
include h
theorem y6T (step i : Int) : SP (Yg q t l cs vs z step i).1.1 (Yg q t l cs vs z step i).1.2.1 (Yg q t l cs vs z step i).1.2.2.1 (Yg q t l cs vs z step i).1.2.2.2.1 (Yg q t l cs vs z step i).1.2.2.2.2.1 := by
 have hl := h.S.2.2.2.1
 have hc := h.S.2.2.2.2.1
 unfold Yg
 split
 ·exact (Kj _ h.tq).sp h hl (by rw [Q7]; exact hc)
 ·split
  ·exact (Kj _ (Kj _ h.tq)).sp h hl hc
  ·refine h.tq.sp h ?_ hc
   unfold y0D
   split
   ·exact hl
   ·split
    ·unfold y3D
     exact Nat.le_trans (List.length_eraseIdx_le _ _) (by simpa using hl)
    ·exact hl
theorem yao (a b c d e : Int) : ZD (q, t, l, cs, vs, z, a, b, c, d, e) = some (if (yk q t (a, b, 0, 0, 0)).2.2 = true then (true, (yk q t (a, b, 0, 0, 0)).1, (yk q t (a, b, 0, 0, 0)).2.1, l, jz q t cs (a, b, c, d, e), vs, z) else (false, q, t, l, cs, vs, z)) := by
 have hq := h.tq
 unfold ZD zK
 simp only [Kz q t a b hq.T hq.q, JT q t a b 0 0 0 hq.T hq.Q hq.q, Option.bind_some]
 cases hr : (yk q t (a, b, 0, 0, 0)).2.2 with
 | false => rfl
 | true =>
  unfold wG jz
  simp only [Bool.not_true, cond_false, if_true, vc cs _ h.S.2.2.2.2.1, Option.bind_some]
  cases (YP q t a b).2.2.2.2.2 with
  | false => rfl
  | true =>
   by_cases h1 : (YP q t a b).2.2.1 = 1
   ·rw [if_pos ⟨rfl, h1⟩]
    simp only [h1, cond_true, Option.bind_some, beq_self_eq_true]
   ·rw [if_neg fun hh => h1 hh.2]
    simp only [cond_true, Option.bind_some, beq_eq_false_iff_ne.2 h1, cond_false]
theorem y67 (a b c d e : Int) : Yd (q, t, l, cs, vs, z, a, b, 0, 0, 0) = some ((yk q t (a, b, 0, 0, 0)).2.2, (yk q t (a, b, 0, 0, 0)).1, (yk q t (a, b, 0, 0, 0)).2.1, l, if (yk q t (a, b, 0, 0, 0)).2.2 = true then jz q t cs (a, b, c, d, e) else cs, vs, z) := by
 have hq := h.tq
 unfold Yd
 simp only [y1v q t a b hq.T hq.q, Vl q t a b 0 0 0 hq.T hq.Q hq.q, Option.bind_some]
 cases hr : (yk q t (a, b, 0, 0, 0)).2.2 with
 | false => rfl
 | true =>
  unfold jz
  simp only [cond_true, if_true, Option.bind_some, y3Z cs _ h.S.2.2.2.2.1]
  cases (YP q t a b).2.2.2.2.2 with
  | false => rfl
  | true =>
   by_cases h1 : (YP q t a b).2.2.1 = 1
   ·rw [if_pos ⟨rfl, h1⟩]
    simp only [h1, cond_true, Option.bind_some, beq_self_eq_true]
   ·rw [if_neg fun hh => h1 hh.2]
    simp only [cond_true, Option.bind_some, beq_eq_false_iff_ne.2 h1, cond_false]
theorem ZH : yK (q, t, l, cs, vs, z) = some (yr q t l cs vs z) := y1t q t l cs vs z h.tq.T h.S.2.2.2.1 h.S.2.2.2.2.1 h.S.2.2.2.2.2 h.N
theorem wT : zO (q, t, l, cs, vs, z) = some (yr q t l cs vs z) := y1u q t l cs vs z h.tq.T h.S.2.2.2.1 h.S.2.2.2.2.1 h.S.2.2.2.2.2 h.N
end
end Go.Proofs.YtjllpipmaejeoaaGreat.Pl
namespace Go.Proofs.YtjllpipmaejeoaaGreat.Pl
open Go.Proofs.YtjllpipmaejeoaaGreat.R Go.Proofs.YtjllpipmaejeoaaGreat.XV
theorem yap : (((0 : Int)) == 0) = true := rfl
theorem yaq : (((0 : Int)) == 1) = false := rfl
theorem yar : (((0 : Int)) == 2) = false := rfl
theorem yas : (((0 : Int)) == 3) = false := rfl
theorem yat : (((0 : Int)) == 4) = false := rfl
theorem yau : (((1 : Int)) == 0) = false := rfl
theorem yav : (((1 : Int)) == 1) = true := rfl
theorem yaw : (((1 : Int)) == 2) = false := rfl
theorem y8V : (((1 : Int)) == 3) = false := rfl
theorem y8W : (((1 : Int)) == 4) = false := rfl
theorem yax : (((2 : Int)) == 0) = false := rfl
theorem yay : (((2 : Int)) == 1) = false := rfl
theorem yaz : (((2 : Int)) == 2) = true := rfl
theorem y8X : (((2 : Int)) == 3) = false := rfl
theorem y8Y : (((2 : Int)) == 4) = false := rfl
theorem yaA : (((3 : Int)) == 0) = false := rfl
theorem yaB : (((3 : Int)) == 1) = false := rfl
theorem yaC : (((3 : Int)) == 2) = false := rfl
theorem y8Z : (((3 : Int)) == 3) = true := rfl
theorem y90 : (((3 : Int)) == 4) = false := rfl
theorem yaD : (((4 : Int)) == 0) = false := rfl
theorem yaE : (((4 : Int)) == 1) = false := rfl
theorem yaF : (((4 : Int)) == 2) = false := rfl
theorem y91 : (((4 : Int)) == 3) = false := rfl
theorem y92 : (((4 : Int)) == 4) = true := rfl
theorem yiz : (((0 : Int)) != 0) = false := rfl
theorem y3H : (((0 : Int)) != 3) = true := rfl
theorem yiA : (((1 : Int)) != 0) = true := rfl
theorem y3I : (((1 : Int)) != 3) = true := rfl
theorem yiB : (((2 : Int)) != 0) = true := rfl
theorem y3J : (((2 : Int)) != 3) = true := rfl
theorem yiC : (((3 : Int)) != 0) = true := rfl
theorem y3K : (((3 : Int)) != 3) = false := rfl
theorem yiD : (((4 : Int)) != 0) = true := rfl
theorem y3L : (((4 : Int)) != 3) = true := rfl
section
variable {q : List yb} {t : List y0} {l : List y9} {cs : List y8} {vs : List yh} (z : Int) (h : SP q t l cs vs)
theorem y93 {q' : List yb} {t' : List y0} {l' : List y9} {cs' : List y8} (ok : Bool) (h' : SP q' t' l' cs' vs) : (Option.bind (bif (!ok) then some true else Option.bind (yK (q', t', l', cs', vs, z)) fun r6 => some (!r6)) fun u5 => bif u5 then some (q, t, l, cs, vs, z, false) else some (q', t', l', cs', vs, z, true)) = some (y1L (yck (q, t, l, cs, vs, z) ((q', t', l', cs', vs, z), ok))) := by
 rw [ZH z h']
 unfold yck y66 y1L
 cases ok with
 | false => rfl
 | true =>
  simp only [Option.bind_some, Bool.not_true, cond_false, Bool.true_and]
  cases yr q' t' l' cs' vs z <;> rfl
theorem y94 {q' : List yb} {t' : List y0} {l' : List y9} {cs' : List y8} (ok : Bool) (h' : SP q' t' l' cs' vs) : (Option.bind (bif (!ok) then some true else Option.bind (zO (q', t', l', cs', vs, z)) fun r6 => some (!r6)) fun u5 => bif u5 then some (q, t, l, cs, vs, z, false) else some (q', t', l', cs', vs, z, true)) = some (y1L (yck (q, t, l, cs, vs, z) ((q', t', l', cs', vs, z), ok))) := by
 rw [wT z h']
 unfold yck y66 y1L
 cases ok with
 | false => rfl
 | true =>
  simp only [Option.bind_some, Bool.not_true, cond_false, Bool.true_and]
  cases yr q' t' l' cs' vs z <;> rfl
include h
theorem y39 : Yi (q, t, l, cs, vs, z) = some (y1L (VK q t l cs vs z)) := by
 have hq := h.tq
 have hl := h.S.2.2.2.1
 have hc := h.S.2.2.2.2.1
 have hv := h.S.2.2.2.2.2
 obtain ⟨⟨step, i⟩, hn⟩ := y6R q t l cs vs z
 have eK : yP (q, t) = some (yc t) := YG q t (by have := hq.T.len; omega) hq.T.nodes hq.T.sum
 unfold Yi
 simp only [kz q t l cs vs z h.S, yam q t l cs vs z hq.T hq.q hl hc hv h.N, hn, eK, Option.bind_some]
 have hp : VK q t l cs vs z = if step = 0 then ((q, t, l, cs, vs, z), false) else yck (q, t, l, cs, vs, z) (Yg q t l cs vs z step i) := by
  unfold VK
  rw [hn]
 have erd : y6 (yc t) i = Yk t i := rfl
 have h12 : ∀ s : Int, s = 1 ∨ s = 2 → (Option.bind (ZD (q, t, l, cs, vs, z, (Yk t i).1, (Yk t i).2.1, (Yk t i).2.2.1, (Yk t i).2.2.2.1, (Yk t i).2.2.2.2)) fun r4 => Option.bind (bif (!r4.1) then some true else Option.bind (yK (r4.2.1, r4.2.2.1, r4.2.2.2.1, r4.2.2.2.2.1, r4.2.2.2.2.2.1, r4.2.2.2.2.2.2)) fun r6 => some (!r6)) fun u5 => bif u5 then some (q, t, l, cs, vs, z, false) else some (r4.2.1, r4.2.2.1, r4.2.2.2.1, r4.2.2.2.2.1, r4.2.2.2.2.2.1, r4.2.2.2.2.2.2, true)) = some (y1L (yck (q, t, l, cs, vs, z) (Yg q t l cs vs z s i))) := by
  intro s hs
  have hT := y6T z h s i
  unfold Yg at hT ⊢
  rw [if_pos hs] at hT ⊢
  rw [yao z h]
  change Option.bind (some (if (yk q t (jj (Yk t i))).2.2 = true then _ else _)) _ = _
  cases hr : (yk q t (jj (Yk t i))).2.2 with
  | false => rfl
  | true => exact y93 z true hT
 rcases y6S q t l cs vs z hn with rfl | ⟨hs, i0, i1, hk⟩ | ⟨rfl, i0, i1⟩
 ·rw [hp, if_pos rfl]
  rfl
 ·rcases hs with rfl | rfl | rfl
  ·rw [hp, if_neg (show ¬ ((1 : Int) = 0) by decide)]
   simp only [yap, yaq, yar, yas, yat, yau, yav, yaw, y8V, y8W, yax, yay, yaz, y8X, y8Y, yaA, yaB, yaC, y8Z, y90, yaD, yaE, yaF, y91, y92, yiz, y3H, yiA, y3I, yiB, y3J, yiC, y3K, yiD, y3L, cond_true, cond_false, erd]
   rw [if_pos i0, if_pos i1]
   exact h12 1 (.inl rfl)
  ·rw [hp, if_neg (show ¬ ((2 : Int) = 0) by decide)]
   simp only [yap, yaq, yar, yas, yat, yau, yav, yaw, y8V, y8W, yax, yay, yaz, y8X, y8Y, yaA, yaB, yaC, y8Z, y90, yaD, yaE, yaF, y91, y92, yiz, y3H, yiA, y3I, yiB, y3J, yiC, y3K, yiD, y3L, cond_true, cond_false, erd]
   rw [if_pos i0, if_pos i1]
   exact h12 2 (.inr rfl)
  ·rw [hp, if_neg (show ¬ ((3 : Int) = 0) by decide)]
   have hT := y6T z h 3 i
   unfold Yg at hT ⊢
   rw [if_neg (show ¬ ((3 : Int) = 1 ∨ (3 : Int) = 2) by decide), if_pos (show (3 : Int) = 3 from rfl)] at hT ⊢
   simp only [yap, yaq, yar, yas, yat, yau, yav, yaw, y8V, y8W, yax, yay, yaz, y8X, y8Y, yaA, yaB, yaC, y8Z, y90, yaD, yaE, yaF, y91, y92, yiz, y3H, yiA, y3I, yiB, y3J, yiC, y3K, yiD, y3L, cond_true, cond_false, erd]
   rw [if_pos i0, if_pos i1]
   obtain ⟨⟨a, b, c, d, e⟩, hx⟩ : ∃ x, Yk t i = x := ⟨_, rfl⟩
   rw [hx] at hk hT ⊢
   have h1 := Kj (a, b, 0, 0, 0) hq
   have hone : y0s vs b = true ∧ ((zg l b).length : Int) = 1 := by
    unfold zk y3E at hk
    rw [if_neg (show ¬ (3 : Int) = 1 by decide), if_neg (show ¬ (3 : Int) = 2 by decide)] at hk
    simp only [Bool.and_eq_true, beq_iff_eq] at hk
    exact hk.1
   have eKid : Zi (q, t, l, cs, vs, z, b) = some ((zg l b).getD 0 0) := by
    unfold Zi
    simp only [Kx l b hl, y0t q t l cs vs z b hv, hone.1, Bool.not_true, cond_false, Option.bind_some]
    rw [show (((List.length (zg l b) : Nat) : Int) != 1) = false by rw [hone.2]; rfl, cond_false, if_pos (by omega), if_pos (by omega)]
    rfl
   simp only [jj] at hT ⊢
   simp only [JT q t a b 0 0 0 hq.T hq.Q hq.q, eKid, Option.bind_some]
   rw [JT _ _ a ((zg l b).getD 0 0) c d e h1.T h1.Q h1.q]
   simp only [Option.bind_some]
   cases (yk q t (a, b, 0, 0, 0)).2.2 with
   | false => rfl
   | true =>
    simp only [cond_true, Option.bind_some, Bool.true_and]
    exact y93 z _ hT
 ·rw [hp, if_neg (show ¬ ((4 : Int) = 0) by decide)]
  have hT := y6T z h 4 i
  unfold Yg at hT ⊢
  rw [if_neg (show ¬ ((4 : Int) = 1 ∨ (4 : Int) = 2) by decide), if_neg (show ¬ (4 : Int) = 3 by decide)] at hT ⊢
  simp only [yap, yaq, yar, yas, yat, yau, yav, yaw, y8V, y8W, yax, yay, yaz, y8X, y8Y, yaA, yaB, yaC, y8Z, y90, yaD, yaE, yaF, y91, y92, yiz, y3H, yiA, y3I, yiB, y3J, yiC, y3K, yiD, y3L, cond_true, cond_false]
  rw [if_pos i0, if_pos i1, y64 l _ hl]
  simp only [Option.bind_some]
  exact y93 z _ hT
theorem y3a : jS (q, t, l, cs, vs, z) = some (y1L (VK q t l cs vs z)) := by
 have hq := h.tq
 have hl := h.S.2.2.2.1
 have hc := h.S.2.2.2.2.1
 have hv := h.S.2.2.2.2.2
 obtain ⟨⟨step, i⟩, hn⟩ := y6R q t l cs vs z
 have eK : za (q, t) = some (yc t) := jU q t (by have := hq.T.len; omega) hq.T.nodes hq.T.sum
 unfold jS
 simp only [y3Y q t l cs vs z h.S, y3G q t l cs vs z hq.T hq.q hl hc hv h.N, hn, Option.bind_some]
 have hp : VK q t l cs vs z = if step = 0 then ((q, t, l, cs, vs, z), false) else yck (q, t, l, cs, vs, z) (Yg q t l cs vs z step i) := by
  unfold VK
  rw [hn]
 have erd : y6 (yc t) i = Yk t i := rfl
 have h12 : ∀ s : Int, s = 1 ∨ s = 2 → (Option.bind (Option.bind (Yd (q, t, l, cs, vs, z, (Yk t i).1, (Yk t i).2.1, (0 : Int), (0 : Int), (0 : Int))) fun r3 => some (r3.1, r3.2.1, r3.2.2.1, r3.2.2.2.1, r3.2.2.2.2.1, r3.2.2.2.2.2.1, r3.2.2.2.2.2.2)) fun r3 => Option.bind (bif (!r3.1) then some true else Option.bind (zO (r3.2.1, r3.2.2.1, r3.2.2.2.1, r3.2.2.2.2.1, r3.2.2.2.2.2.1, r3.2.2.2.2.2.2)) fun r5 => some (!r5)) fun u4 => bif u4 then some (q, t, l, cs, vs, z, false) else some (r3.2.1, r3.2.2.1, r3.2.2.2.1, r3.2.2.2.2.1, r3.2.2.2.2.2.1, r3.2.2.2.2.2.2, true)) = some (y1L (yck (q, t, l, cs, vs, z) (Yg q t l cs vs z s i))) := by
  intro s hs
  have hT := y6T z h s i
  unfold Yg at hT ⊢
  rw [if_pos hs] at hT ⊢
  have e : Yd (q, t, l, cs, vs, z, (Yk t i).1, (Yk t i).2.1, (0 : Int), (0 : Int), (0 : Int)) = some ((yk q t (jj (Yk t i))).2.2, (yk q t (jj (Yk t i))).1, (yk q t (jj (Yk t i))).2.1, l, if (yk q t (jj (Yk t i))).2.2 = true then jz q t cs (Yk t i) else cs, vs, z) := y67 z h _ _ (Yk t i).2.2.1 (Yk t i).2.2.2.1 (Yk t i).2.2.2.2
  rw [e]
  cases hr : (yk q t (jj (Yk t i))).2.2 with
  | false => rfl
  | true => exact y94 z true hT
 rcases y6S q t l cs vs z hn with rfl | ⟨hs, i0, i1, hk⟩ | ⟨rfl, i0, i1⟩
 ·rw [hp, if_pos rfl]
  rfl
 ·unfold Zu
  simp only [eK, Option.bind_some]
  rcases hs with rfl | rfl | rfl
  ·rw [hp, if_neg (show ¬ ((1 : Int) = 0) by decide)]
   simp only [yap, yaq, yar, yas, yat, yau, yav, yaw, y8V, y8W, yax, yay, yaz, y8X, y8Y, yaA, yaB, yaC, y8Z, y90, yaD, yaE, yaF, y91, y92, yiz, y3H, yiA, y3I, yiB, y3J, yiC, y3K, yiD, y3L, cond_true, cond_false, erd]
   rw [if_pos i0, if_pos i1]
   exact h12 1 (.inl rfl)
  ·rw [hp, if_neg (show ¬ ((2 : Int) = 0) by decide)]
   simp only [yap, yaq, yar, yas, yat, yau, yav, yaw, y8V, y8W, yax, yay, yaz, y8X, y8Y, yaA, yaB, yaC, y8Z, y90, yaD, yaE, yaF, y91, y92, yiz, y3H, yiA, y3I, yiB, y3J, yiC, y3K, yiD, y3L, cond_true, cond_false, erd]
   rw [if_pos i0, if_pos i1]
   exact h12 2 (.inr rfl)
  ·rw [hp, if_neg (show ¬ ((3 : Int) = 0) by decide)]
   have hT := y6T z h 3 i
   unfold Yg at hT ⊢
   rw [if_neg (show ¬ ((3 : Int) = 1 ∨ (3 : Int) = 2) by decide), if_pos (show (3 : Int) = 3 from rfl)] at hT ⊢
   simp only [yap, yaq, yar, yas, yat, yau, yav, yaw, y8V, y8W, yax, yay, yaz, y8X, y8Y, yaA, yaB, yaC, y8Z, y90, yaD, yaE, yaF, y91, y92, yiz, y3H, yiA, y3I, yiB, y3J, yiC, y3K, yiD, y3L, cond_true, cond_false, erd]
   rw [if_pos i0, if_pos i1]
   obtain ⟨⟨a, b, c, d, e⟩, hx⟩ : ∃ x, Yk t i = x := ⟨_, rfl⟩
   rw [hx] at hk hT ⊢
   have h1 := Kj (a, b, 0, 0, 0) hq
   have hone : y0s vs b = true ∧ ((zg l b).length : Int) = 1 := by
    unfold zk y3E at hk
    rw [if_neg (show ¬ (3 : Int) = 1 by decide), if_neg (show ¬ (3 : Int) = 2 by decide)] at hk
    simp only [Bool.and_eq_true, beq_iff_eq] at hk
    exact hk.1
   simp only [jj] at hT ⊢
   simp only [Ky l b hl, Vl q t a b 0 0 0 hq.T hq.Q hq.q, Option.bind_some]
   rw [if_pos (by omega), if_pos (by omega)]
   cases (yk q t (a, b, 0, 0, 0)).2.2 with
   | false => rfl
   | true =>
    simp only [Bool.not_true, cond_false, Bool.true_and]
    rw [Vl _ _ a (zt (zg l b) 0) c d e h1.T h1.Q h1.q]
    simp only [Option.bind_some]
    exact y94 z _ hT
 ·unfold Zu
  rw [hp, if_neg (show ¬ ((4 : Int) = 0) by decide)]
  have hT := y6T z h 4 i
  unfold Yg at hT ⊢
  rw [if_neg (show ¬ ((4 : Int) = 1 ∨ (4 : Int) = 2) by decide), if_neg (show ¬ (4 : Int) = 3 by decide)] at hT ⊢
  simp only [yap, yaq, yar, yas, yat, yau, yav, yaw, y8V, y8W, yax, yay, yaz, y8X, y8Y, yaA, yaB, yaC, y8Z, y90, yaD, yaE, yaF, y91, y92, yiz, y3H, yiA, y3I, yiB, y3J, yiC, y3K, yiD, y3L, cond_true, cond_false]
  rw [if_pos i0, if_pos i1, y65 l _ hl]
  simp only [Option.bind_some]
  exact y94 z _ hT
end
end Go.Proofs.YtjllpipmaejeoaaGreat.Pl
