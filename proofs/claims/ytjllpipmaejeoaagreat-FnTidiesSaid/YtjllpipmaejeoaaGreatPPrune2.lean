/- Base, Loops, Keys, Pool, Tree, Seen, Rng, Walk, See, Oks, Whole, Trees, Names, PoolOk, PoolOk2, PoolOk3, PutPool0, SetSrt, Join, CopyPool, Next, NodePut, JoinT, TreePut, KeySem, KeySem2, CutAge, Calm, Prune, Prune2. No condition. -/
import Derived.Test.YtjllpipmaejeoaaGreatDU1
import Derived.Laws.BitsLemmas
set_option linter.all false
namespace Go.Proofs.YtjllpipmaejeoaaGreat.Pl
open Go.Proofs.YtjllpipmaejeoaaGreat.R Go.Proofs.YtjllpipmaejeoaaGreat.XU
theorem ylw {T R : Type} {step : (T → Option R) → T → Option R} (μ : T → Nat) (inv : T → Prop) (G : T → Option R)
  (h : ∀ again t, inv t → (∀ t', inv t' → μ t' < μ t → again t' = G t') → step again t = G t) : ∀ (n : Nat) (t : T), inv t → μ t < n → zL step n t = G t := by
 intro n
 induction n with
 | zero => intro t _ hn; omega
 | succ n ih =>
  intro t ht hn
  rw [zL]
  exact h _ t ht fun t' ht' hlt => ih t' ht' (by omega)
theorem YM {T R : Type} {step : (T → Option R) → T → Option R} (μ : T → Nat) (inv : T → Prop) (G : T → Option R)
  (h : ∀ again t, inv t → (∀ t', inv t' → μ t' < μ t → again t' = G t') → step again t = G t) (t : T) (ht : inv t) (hn : μ t < 18446744073709551616) : zL step Y4 t = G t :=
 ylw μ inv G h Y4 t ht (by rw [y0T]; exact hn)
theorem w64 {n : Int} (h0 : -9223372036854775808 ≤ n) (h1 : n ≤ 9223372036854775807) : Go.IntKind.wrap .i64 n = n := by
 rw [IntKind.wrap_i64]
 omega
def inR (x a b : Int) : Bool := decide (a ≤ x) && decide (x ≤ b)
theorem zl {x a b : Int} : inR x a b = true ↔ a ≤ x ∧ x ≤ b := by simp [inR]
theorem yd1 (n : Nat) (h : n < 9223372036854775808) : IntKind.i64.wrap (n : Int) = n := by
 rw [IntKind.wrap_i64]
 omega
theorem yaJ (x : Int) : ((BitVec.ofInt 64 x).toNat : Int) = x % 18446744073709551616 := by
 rw [BitVec.toNat_ofInt]
 omega
theorem ygO (x : Int) (m : Nat) (j : Nat) (hj : j < 63) (hm : m = 2 ^ j - 1) : bits .and .i64 x m = x % (2 ^ j : Nat) := by
 have hd : (2 ^ j : Nat) ∣ 18446744073709551616 := by
  have : (18446744073709551616 : Nat) = 2 ^ j * 2 ^ (64 - j) := by rw [← Nat.pow_add, show j + (64 - j) = 64 by omega]
  rw [this]
  exact Nat.dvd_mul_right _ _
 have hlt : m < 18446744073709551616 := by
  have : 2 ^ j ≤ 2 ^ 64 := Nat.pow_le_pow_right (by omega) (by omega)
  have h1 : 0 < 2 ^ j := Nat.two_pow_pos j
  omega
 have hj63 : 2 ^ j < 9223372036854775808 := by
  have : 2 ^ j ≤ 2 ^ 62 := Nat.pow_le_pow_right (by omega) (by omega)
  omega
 show IntKind.i64.wrap ((BitVec.ofInt 64 x &&& BitVec.ofInt 64 (m : Int)).toNat : Int) = _
 rw [BitVec.toNat_and, BitVec.ofInt_natCast, BitVec.toNat_ofNat, Nat.mod_eq_of_lt hlt, hm, Nat.and_two_pow_sub_one_eq_mod]
 have h2 := Nat.mod_lt (BitVec.ofInt 64 x).toNat (Nat.two_pow_pos j)
 rw [yd1 _ (by omega), Int.natCast_emod, yaJ]
 exact Int.emod_emod_of_dvd _ (Int.ofNat_dvd.2 hd)
theorem yrW (x : Int) : bits .and .i64 x 255 = x % 256 := ygO x 255 8 (by omega) (by decide)
def isBytes (l : List Int) : Prop := ∀ x ∈ l, 0 ≤ x ∧ x < 256
def by_ (l : List Int) (i : Int) : Int := l.getD i.toNat 0
theorem ybK {l : List Int} (h : isBytes l) (i : Int) : 0 ≤ by_ l i ∧ by_ l i < 256 := by
 unfold by_
 rw [List.getD_eq_getElem?_getD]
 cases hl : l[i.toNat]? with
 | none => simp
 | some x => exact h x (List.mem_of_getElem? hl)
end Go.Proofs.YtjllpipmaejeoaaGreat.Pl
namespace Go.Proofs.YtjllpipmaejeoaaGreat.Pl
open Go.Proofs.YtjllpipmaejeoaaGreat.R Go.Proofs.YtjllpipmaejeoaaGreat.XU
theorem Js {T R : Type} {step : (T → Option R) → T → Option R} (μ : T → Nat) (inv : T → Prop) (Q : T → Option R → Prop)
  (h : ∀ again t, inv t → (∀ t', inv t' → μ t' < μ t → Q t' (again t')) → Q t (step again t)) (t : T) (ht : inv t) (hn : μ t < 18446744073709551616) : Q t (zL step Y4 t) := by
 have key : ∀ (n : Nat) (t : T), inv t → μ t < n → Q t (zL step n t) := by
  intro n
  induction n with
  | zero => intro t _ hn; omega
  | succ n ih =>
   intro t ht hn
   rw [zL]
   exact h _ t ht fun t' ht' hlt => ih t' ht' (by omega)
 exact key Y4 t ht (by rw [y0T]; exact hn)
theorem y7C {A : Type} (da : A) (l : List A) (i : Int) (h0 : 0 ≤ i) (h : i < l.length) : l.getD i.toNat da = l[i.toNat]'(by omega) := by
 rw [List.getD_eq_getElem?_getD, List.getElem?_eq_getElem (by omega)]
 rfl
theorem ze {A : Type} (da : A) (l : List A) (i : Int) (h0 : 0 ≤ i) (h : i < l.length) : l.getD i.toNat da ∈ l := by
 rw [y7C da l i h0 h]
 exact List.getElem_mem _
theorem wB {A : Type} (da : A) (l : List A) (i : Int) (h0 : 0 ≤ i) (h : i < l.length) : l.drop i.toNat = l.getD i.toNat da :: l.drop (i + 1).toNat := by
 rw [y7C da l i h0 h, show (i + 1).toNat = i.toNat + 1 by omega, ← List.drop_eq_getElem_cons]
def WW {A : Type} (w : A → Int) (l : List A) : Int := l.foldr (fun a s => w a + s) 0
theorem Y7 {A : Type} (w : A → Int) (a : A) (l : List A) : WW w (a :: l) = w a + WW w l := rfl
theorem y0e {A : Type} {w : A → Int} (hw : ∀ a, 0 ≤ w a) : ∀ {l : List A} {a : A}, a ∈ l → w a ≤ WW w l ∧ 0 ≤ WW w l
 | b :: l, a, h => by
  have hs : 0 ≤ WW w l := by
   clear h
   induction l with
   | nil => exact Int.le_refl _
   | cons c l ih => rw [Y7]; have := hw c; omega
  rw [Y7]
  have := hw b
  rcases List.mem_cons.1 h with rfl | h
  ·omega
  ·have := (y0e hw h).1
   omega
theorem wP {A : Type} {w : A → Int} (hw : ∀ a, 0 ≤ w a) (l : List A) : 0 ≤ WW w l := by
 induction l with
 | nil => exact Int.le_refl _
 | cons c l ih => rw [Y7]; have := hw c; omega
end Go.Proofs.YtjllpipmaejeoaaGreat.Pl
namespace Go.Proofs.YtjllpipmaejeoaaGreat.Pl
open Go.Proofs.YtjllpipmaejeoaaGreat.R Go.Proofs.YtjllpipmaejeoaaGreat.XU
theorem Y2 {T A S R : Type} {step : (T → Option R) → T → Option R} (mk : Int → S → T) (k : S → Option R) (da : A) (g : S → A → S) (l : List A) (hl : l.length ≤ 1099511627776) (I : Nat → S → Prop)
  (h : ∀ again i s, 0 ≤ i → i < (l.length : Int) → I i.toNat s → step again (mk i s) = again (mk (i + 1) (g s (l.getD i.toNat da))) ∧ I (i.toNat + 1) (g s (l.getD i.toNat da)))
  (hd : ∀ again i s, ¬ i < (l.length : Int) → step again (mk i s) = k s) (s : S) (hs : I 0 s) : zL step Y4 (mk 0 s) = k (l.foldl g s) := by
 have key : ∀ (n : Nat) (i : Int) (s : S), 0 ≤ i → i ≤ l.length → I i.toNat s → l.length - i.toNat < n → zL step n (mk i s) = k ((l.drop i.toNat).foldl g s) := by
  intro n
  induction n with
  | zero => intro i s _ _ _ hn; omega
  | succ n ih =>
   intro i s h0 h1 hI hn
   rw [zL]
   by_cases hi : i < (l.length : Int)
   ·obtain ⟨e, hI'⟩ := h (zL step n) i s h0 hi hI
    have e1 : (i + 1).toNat = i.toNat + 1 := by omega
    rw [e, ih (i + 1) _ (by omega) (by omega) (by rw [e1]; exact hI') (by omega), wB da l i h0 hi]
    rfl
   ·rw [hd _ i s hi, List.drop_of_length_le (by omega)]
    rfl
 have := key Y4 0 s (by omega) (by omega) hs (by rw [y0T]; simp; omega)
 simpa using this
def wQ (c k : y8) : Bool := if c.1 < k.1 then true else if c.1 = k.1 then decide (c.2.1 < k.2.1) else false
def ZU (c k : y8) : Bool := decide (c.1 = k.1) && decide (c.2.1 = k.2.1)
theorem QM (a1 a2 a3 a4 a5 b1 b2 b3 b4 b5 : Int) : jx (a1, a2, a3, a4, a5, b1, b2, b3, b4, b5) = some (wQ (a1, a2, a3, a4, a5) (b1, b2, b3, b4, b5)) := by
 unfold jx wQ
 by_cases h : a1 = b1
 ·subst h
  simp
 ·have hb : (a1 == b1) = false := by simpa using h
  have hb' : (a1 != b1) = true := by simpa using h
  by_cases h2 : a1 < b1 <;> simp [h, h2, hb, hb']
theorem QN (a1 a2 a3 a4 a5 b1 b2 b3 b4 b5 : Int) : jA (a1, a2, a3, a4, a5, b1, b2, b3, b4, b5) = some (wQ (a1, a2, a3, a4, a5) (b1, b2, b3, b4, b5)) := by
 unfold jA wQ
 by_cases h : a1 = b1
 ·subst h
  simp
 ·have hb : (a1 == b1) = false := by simpa using h
  have hb' : (a1 != b1) = true := by simpa using h
  by_cases h2 : a1 < b1 <;> simp [h, h2, hb, hb']
theorem y2M (a1 a2 a3 a4 a5 b1 b2 b3 b4 b5 : Int) : Zx (a1, a2, a3, a4, a5, b1, b2, b3, b4, b5) = some (ZU (a1, a2, a3, a4, a5) (b1, b2, b3, b4, b5)) := by
 unfold Zx ZU
 have e1 : (a1 == b1) = decide (a1 = b1) := rfl
 have e2 : (a2 == b2) = decide (a2 = b2) := rfl
 simp only [e1, e2]
 cases decide (a1 = b1) <;> cases decide (a2 = b2) <;> rfl
theorem y2N (a1 a2 a3 a4 a5 b1 b2 b3 b4 b5 : Int) : ZK (a1, a2, a3, a4, a5, b1, b2, b3, b4, b5) = some (ZU (a1, a2, a3, a4, a5) (b1, b2, b3, b4, b5)) := by
 unfold ZK ZU
 have e1 : (a1 == b1) = decide (a1 = b1) := rfl
 have e2 : (a2 == b2) = decide (a2 = b2) := rfl
 simp only [e1, e2]
 cases decide (a1 = b1) <;> cases decide (a2 = b2) <;> rfl
theorem ysG {n k : Nat} (h : n ≤ 1073741825) (hk : (1073741825 + k) * 40 < 140737488355328) : (n + k) * 40 < 140737488355328 := by omega
def jE (k : y8) (s : Bool × List y8) (c : y8) : Bool × List y8 :=
 if s.1 = false ∧ wQ c k = false then (true, if ZU c k then s.2 ++ [k] else s.2 ++ [k] ++ [c]) else (s.1, if ZU c k then s.2 else s.2 ++ [c])
def zT (l : List y8) (k : y8) : List y8 :=
 let r := l.foldl (jE k) (false, [])
 if r.1 then r.2 else r.2 ++ [k]
def pN (p : Bool) : Nat := if p then 1 else 0
theorem y40 (k : y8) (s : Bool × List y8) (c : y8) : (jE k s c).2.length + pN s.1 ≤ s.2.length + 1 + pN (jE k s c).1 ∧ pN (jE k s c).1 ≤ 1 := by
 unfold jE pN
 obtain ⟨p, o⟩ := s
 cases p <;> cases wQ c k <;> cases ZU c k <;> simp
theorem y0f (k : y8) : ∀ (l : List y8) (s : Bool × List y8), (l.foldl (jE k) s).2.length + pN s.1 ≤ s.2.length + l.length + pN (l.foldl (jE k) s).1
 | [], s => by simp
 | c :: l, s => by
  have h1 := (y40 k s c).1
  have h2 := y0f k l (jE k s c)
  simp only [List.foldl_cons, List.length_cons] at h2 ⊢
  omega
theorem W4 (l : List y8) (k : y8) : (zT l k).length ≤ l.length + 1 := by
 have h := y0f k l (false, [])
 unfold zT
 simp only [pN, List.length_nil, Bool.false_eq_true, if_false] at h ⊢
 cases hr : (l.foldl (jE k) (false, [])).1 with
 | true =>
  rw [hr] at h
  simp at h ⊢
  omega
 | false =>
  rw [hr] at h
  simp at h ⊢
  omega
theorem y2O {R : Type} (k0 : Bool × Int × Int × Int × Int × Int × List y8 → Option R) (again : Wc → Option R) (l : List y8) (i : Int) (p : Bool) (a b c d e : Int) (o : List y8) (hl : l.length ≤ 1073741824) (h0 : 0 ≤ i) (h1 : i < (l.length : Int)) (ho : o.length ≤ 1073741825) :
  YF k0 again (l, p, i, a, b, c, d, e, o) = again (l, (jE (a, b, c, d, e) (p, o) (l.getD i.toNat yI)).1, i + 1, a, b, c, d, e, (jE (a, b, c, d, e) (p, o) (l.getD i.toNat yI)).2) := by
 have hw : Go.IntKind.wrap .i64 (i + 1) = i + 1 := w64 (by omega) (by omega)
 have c1 : (o.length + (0 + 1)) * 40 < 140737488355328 := ysG ho (by decide)
 have c2 : (o.length + (0 + 1) + (0 + 1)) * 40 < 140737488355328 := by rw [Nat.add_assoc]; exact ysG ho (by decide)
 obtain ⟨⟨x1, x2, x3, x4, x5⟩, hx⟩ : ∃ x, y6 l i = x := ⟨_, rfl⟩
 have hx' : l.getD i.toNat yI = (x1, x2, x3, x4, x5) := hx
 rw [hx']
 unfold YF
 simp only [Bool.cond_eq_ite, decide_eq_true_eq, h0, h1, if_true, hw, hx, QM, y2M, Option.bind_some, List.length_append, List.length_cons, List.length_nil]
 unfold jE
 generalize wQ (x1, x2, x3, x4, x5) (a, b, c, d, e) = q1
 generalize ZU (x1, x2, x3, x4, x5) (a, b, c, d, e) = q2
 simp only [c1, c2, if_true]
 cases p <;> cases q1 <;> cases q2 <;> rfl
theorem y2P {R : Type} (k0 : Bool × Int × Int × Int × Int × Int × List y8 → Option R) (l : List y8) (a b c d e : Int) (hl : l.length ≤ 1073741824) :
  vb k0 (l, false, 0, a, b, c, d, e, []) = k0 ((l.foldl (jE (a, b, c, d, e)) (false, [])).1, a, b, c, d, e, (l.foldl (jE (a, b, c, d, e)) (false, [])).2) := by
 unfold vb
 refine Y2 (step := YF k0) (fun (i : Int) (s : Bool × List y8) => (l, s.1, i, a, b, c, d, e, s.2)) (fun s => k0 (s.1, a, b, c, d, e, s.2)) yI (jE (a, b, c, d, e)) l (by omega) (fun i s => s.2.length ≤ i + pN s.1) ?_ ?_ (false, []) (by simp)
 ·rintro again i ⟨p, o⟩ h0 h1 hI
  have hp : pN p ≤ 1 := by cases p <;> decide
  have hI' : o.length ≤ i.toNat + pN p := hI
  clear hI
  refine ⟨y2O k0 again l i p a b c d e o hl h0 h1 (by omega), ?_⟩
  have ho := (y40 (a, b, c, d, e) (p, o) (l.getD i.toNat yI)).1
  show (jE (a, b, c, d, e) (p, o) (l.getD i.toNat yI)).2.length ≤ i.toNat + 1 + pN (jE (a, b, c, d, e) (p, o) (l.getD i.toNat yI)).1
  generalize (jE (a, b, c, d, e) (p, o) (l.getD i.toNat yI)) = r at ho ⊢
  simp only at ho
  omega
 ·rintro again i ⟨p, o⟩ hi
  show YF k0 again (l, p, i, a, b, c, d, e, o) = _
  unfold YF
  simp only [Bool.cond_eq_ite, decide_eq_true_eq, if_neg hi]
theorem K3 (l : List y8) (a b c d e : Int) (hl : l.length ≤ 1073741824) : zB (l, a, b, c, d, e) = some (zT l (a, b, c, d, e)) := by
 have hlen := y0f (a, b, c, d, e) l (false, [])
 unfold zB zT
 rw [y2P _ l a b c d e hl]
 generalize l.foldl (jE (a, b, c, d, e)) (false, []) = r at hlen ⊢
 obtain ⟨q, o⟩ := r
 cases q with
 | true => rfl
 | false =>
  simp only [pN, List.length_nil, Bool.false_eq_true, if_false] at hlen
  simp only [Bool.not_false, cond_true, List.length_cons, List.length_nil, Bool.false_eq_true, if_false]
  rw [if_pos (by omega)]
theorem y2Q {R : Type} (k0 : Bool × Int × Int × Int × Int × Int × List y8 → Option R) (again : WC → Option R) (l : List y8) (i : Int) (p : Bool) (a b c d e : Int) (o : List y8) (hl : l.length ≤ 1073741824) (h0 : 0 ≤ i) (h1 : i < (l.length : Int)) (ho : o.length ≤ 1073741825) :
  YJ k0 again (p, l, (l.length : Int), i, a, b, c, d, e, o) = again ((jE (a, b, c, d, e) (p, o) (l.getD i.toNat yI)).1, l, (l.length : Int), i + 1, a, b, c, d, e, (jE (a, b, c, d, e) (p, o) (l.getD i.toNat yI)).2) := by
 have hw : Go.IntKind.wrap .i64 (i + 1) = i + 1 := w64 (by omega) (by omega)
 have c1 : (o.length + (0 + 1)) * 40 < 140737488355328 := ysG ho (by decide)
 have c2 : (o.length + (0 + 1) + (0 + 1)) * 40 < 140737488355328 := by rw [Nat.add_assoc]; exact ysG ho (by decide)
 obtain ⟨⟨x1, x2, x3, x4, x5⟩, hx⟩ : ∃ x, y6 l i = x := ⟨_, rfl⟩
 have hx' : l.getD i.toNat yI = (x1, x2, x3, x4, x5) := hx
 rw [hx']
 unfold YJ
 simp only [Bool.cond_eq_ite, decide_eq_true_eq, h0, h1, if_true, hw, hx, QN, y2N, Option.bind_some, List.length_append, List.length_cons, List.length_nil]
 unfold jE
 generalize wQ (x1, x2, x3, x4, x5) (a, b, c, d, e) = q1
 generalize ZU (x1, x2, x3, x4, x5) (a, b, c, d, e) = q2
 simp only [c1, c2, if_true]
 cases p <;> cases q1 <;> cases q2 <;> rfl
theorem y2R {R : Type} (k0 : Bool × Int × Int × Int × Int × Int × List y8 → Option R) (l : List y8) (a b c d e : Int) (hl : l.length ≤ 1073741824) :
  vy k0 (false, l, (l.length : Int), 0, a, b, c, d, e, []) = k0 ((l.foldl (jE (a, b, c, d, e)) (false, [])).1, a, b, c, d, e, (l.foldl (jE (a, b, c, d, e)) (false, [])).2) := by
 unfold vy
 refine Y2 (step := YJ k0) (fun (i : Int) (s : Bool × List y8) => (s.1, l, (l.length : Int), i, a, b, c, d, e, s.2)) (fun s => k0 (s.1, a, b, c, d, e, s.2)) yI (jE (a, b, c, d, e)) l (by omega) (fun i s => s.2.length ≤ i + pN s.1) ?_ ?_ (false, []) (by simp)
 ·rintro again i ⟨p, o⟩ h0 h1 hI
  have hp : pN p ≤ 1 := by cases p <;> decide
  have hI' : o.length ≤ i.toNat + pN p := hI
  clear hI
  refine ⟨y2Q k0 again l i p a b c d e o hl h0 h1 (by omega), ?_⟩
  have ho := (y40 (a, b, c, d, e) (p, o) (l.getD i.toNat yI)).1
  show (jE (a, b, c, d, e) (p, o) (l.getD i.toNat yI)).2.length ≤ i.toNat + 1 + pN (jE (a, b, c, d, e) (p, o) (l.getD i.toNat yI)).1
  generalize (jE (a, b, c, d, e) (p, o) (l.getD i.toNat yI)) = r at ho ⊢
  simp only at ho
  omega
 ·rintro again i ⟨p, o⟩ hi
  show YJ k0 again (p, l, (l.length : Int), i, a, b, c, d, e, o) = _
  unfold YJ
  simp only [Bool.cond_eq_ite, decide_eq_true_eq, if_neg hi]
theorem Vq (l : List y8) (a b c d e : Int) (hl : l.length ≤ 1073741824) : jb (l, a, b, c, d, e) = some (zT l (a, b, c, d, e)) := by
 have hlen := y0f (a, b, c, d, e) l (false, [])
 unfold jb zT
 rw [y2R _ l a b c d e hl]
 generalize l.foldl (jE (a, b, c, d, e)) (false, []) = r at hlen ⊢
 obtain ⟨q, o⟩ := r
 cases q with
 | true => rfl
 | false =>
  simp only [pN, List.length_nil, Bool.false_eq_true, if_false] at hlen
  simp only [Bool.not_false, cond_true, List.length_cons, List.length_nil, Bool.false_eq_true, if_false]
  rw [if_pos (by omega)]
end Go.Proofs.YtjllpipmaejeoaaGreat.Pl
namespace Go.Proofs.YtjllpipmaejeoaaGreat.Pl
open Go.Proofs.YtjllpipmaejeoaaGreat.R Go.Proofs.YtjllpipmaejeoaaGreat.XU
def Q2 (l : List y9) : Int := (List.length l : Int) + WW (fun a : y9 => (List.length a : Int)) l
theorem Kh (l : List y9) : 0 ≤ Q2 l := by
 have := wP (w := fun a : y9 => (List.length a : Int)) (fun a => Int.natCast_nonneg _) l
 unfold Q2
 omega
end Go.Proofs.YtjllpipmaejeoaaGreat.Pl
namespace Go.Proofs.YtjllpipmaejeoaaGreat.Pl
open Go.Proofs.YtjllpipmaejeoaaGreat.R Go.Proofs.YtjllpipmaejeoaaGreat.XU
def YP (a b : List y8) : List y8 := b.foldl zT a
theorem y0g : ∀ (b a : List y8), (YP a b).length ≤ a.length + b.length
 | [], a => by simp [YP]
 | c :: b, a => by
  have h := y0g b (zT a c)
  have h2 := W4 a c
  unfold YP at h ⊢
  simp only [List.foldl_cons, List.length_cons] at h ⊢
  omega
def vQ (s : List y8) (c : y8) : List y8 := if c.2.2.1 = 0 then s else s ++ [c]
def ka (l : List y8) : List y8 := l.foldl vQ []
theorem y0X (s : List y8) (c : y8) : (vQ s c).length ≤ s.length + 1 := by
 unfold vQ
 split <;> simp
theorem y41 : ∀ (l s : List y8), (l.foldl vQ s).length ≤ s.length + l.length
 | [], s => by simp
 | c :: l, s => by
  have h := y41 l (vQ s c)
  have h2 := y0X s c
  simp only [List.foldl_cons, List.length_cons]
  omega
def VC (a : y9) : Int := (List.length a : Int)
theorem kO (a : y9) : 0 ≤ VC a := Int.natCast_nonneg _
def yA (n : List y9) : List y8 := ka (n.foldl YP [])
theorem y1v : ∀ (n : List y9) (s : List y8), ((n.foldl YP s).length : Int) ≤ s.length + WW VC n
 | [], s => by simp [WW]
 | c :: n, s => by
  have h := y1v n (YP s c)
  have h2 := y0g c s
  simp only [List.foldl_cons, Y7, VC]
  omega
theorem Ki (n : List y9) : ((yA n).length : Int) ≤ WW VC n := by
 have h := y41 (n.foldl YP []) []
 have h2 := y1v n []
 unfold yA ka
 simp only [List.length_nil] at h h2
 omega
theorem y1w (n : List y9) : WW VC n ≤ Q2 n := by
 show WW (fun a : y9 => (List.length a : Int)) n ≤ (List.length n : Int) + WW (fun a : y9 => (List.length a : Int)) n
 omega
def WX (s : List y8) (n : y0) : List y8 := s ++ yA n
def yn (t : List y0) : List y8 := t.foldl WX []
theorem y28 (a b : List y8) (h : a.length + b.length ≤ 1073741824) : YS (a, b) = some (YP a b) := by
 unfold YS V8
 simp only [List.length_nil, Nat.zero_add, List.nil_append]
 rw [if_pos (by omega)]
 refine Y2 (step := YY _) (fun (i : Int) (s : List y8) => (b, i, s)) (fun s => some s) yI zT b (by omega) (fun i s => s.length ≤ a.length + i) ?_ ?_ a (by simp)
 ·intro again i s h0 h1 hI
  have hw : Go.IntKind.wrap .i64 (i + 1) = i + 1 := w64 (by omega) (by omega)
  have hs := W4 s (b.getD i.toNat yI)
  have e := K3 s (y6 b i).1 (y6 b i).2.1 (y6 b i).2.2.1 (y6 b i).2.2.2.1 (y6 b i).2.2.2.2 (by omega)
  refine ⟨?_, by omega⟩
  unfold YY
  simp only [Bool.cond_eq_ite, decide_eq_true_eq, h0, h1, if_true, hw, e, Option.bind_some]
  rfl
 ·intro again i s hi
  unfold YY
  simp only [Bool.cond_eq_ite, decide_eq_true_eq, if_neg hi]
theorem QO (l : List y8) (h : l.length ≤ 1073741824) : zW l = some (ka l) := by
 unfold zW y1p
 refine Y2 (step := Wb _) (fun (i : Int) (s : List y8) => (l, i, s)) (fun s => some s) yI vQ l (by omega) (fun i s => s.length ≤ i) ?_ ?_ [] (by simp)
 ·intro again i s h0 h1 hI
  have hw : Go.IntKind.wrap .i64 (i + 1) = i + 1 := w64 (by omega) (by omega)
  have hs := y0X s (l.getD i.toNat yI)
  refine ⟨?_, by omega⟩
  have c1 : (s.length + 1) * 40 < 140737488355328 := by omega
  clear hs
  unfold Wb vQ
  obtain ⟨⟨x1, x2, x3, x4, x5⟩, hx⟩ : ∃ x, y6 l i = x := ⟨_, rfl⟩
  have hx' : l.getD i.toNat yI = (x1, x2, x3, x4, x5) := hx
  rw [hx']
  simp only [Bool.cond_eq_ite, decide_eq_true_eq, h0, h1, if_true, hw, hx, List.length_cons, List.length_nil, Nat.zero_add, c1]
  by_cases h3 : x3 = 0
  ·rw [if_neg (by simpa using h3), if_pos h3]
  ·rw [if_pos (by simpa using h3), if_neg h3]
 ·intro again i s hi
  unfold Wb
  simp only [Bool.cond_eq_ite, decide_eq_true_eq, if_neg hi]
theorem YW (n : List y9) (hn : n.length ≤ 1073741824) (h : WW VC n ≤ 1048576) : yD n = some (yA n) := by
 have hlen := y1v n []
 simp only [List.length_nil] at hlen
 have hD := QO (n.foldl YP []) (by omega)
 unfold yD VJ
 refine (Y2 (step := Zy _) (fun (i : Int) (s : List y8) => (i, n, s)) (fun s => Option.bind (zW s) fun r3 => some r3) z6 YP n (by omega) (fun i s => (s.length : Int) + WW VC (n.drop i) ≤ WW VC n) ?_ ?_ [] (by simp)).trans ?_
 ·intro again i s h0 h1 hI
  have hw : Go.IntKind.wrap .i64 (i + 1) = i + 1 := w64 (by omega) (by omega)
  rw [wB z6 n i h0 h1, Y7, show (i + 1).toNat = i.toNat + 1 by omega] at hI
  have hnn := wP kO (n.drop (i.toNat + 1))
  have hm := y0g (n.getD i.toNat z6) s
  have hk : VC (n.getD i.toNat z6) = (List.length (n.getD i.toNat z6) : Int) := rfl
  have e : YS (s, yq n i) = some (YP s (yq n i)) := y28 s _ (by show s.length + List.length (n.getD i.toNat z6) ≤ _; omega)
  refine ⟨?_, by omega⟩
  unfold Zy
  simp only [Bool.cond_eq_ite, decide_eq_true_eq, h0, h1, if_true, hw, e, Option.bind_some]
  rfl
 ·intro again i s hi
  unfold Zy
  simp only [Bool.cond_eq_ite, decide_eq_true_eq, if_neg hi]
 ·rw [hD]
  rfl
theorem Ys (q : List Int) (t : List y0) (ht : t.length ≤ 1073741824) (hm : ∀ n ∈ t, List.length n ≤ 1073741824) (h : WW Q2 t ≤ 1048576) : yM (q, t) = some (yn t) := by
 unfold yM VK
 refine Y2 (step := Zz _) (fun (i : Int) (s : List y8) => (i, q, t, s)) (fun s => some s) yh WX t (by omega) (fun i s => (s.length : Int) + WW Q2 (t.drop i) ≤ WW Q2 t) ?_ ?_ [] (by simp)
 ·intro again i s h0 h1 hI
  have hw : Go.IntKind.wrap .i64 (i + 1) = i + 1 := w64 (by omega) (by omega)
  rw [wB yh t i h0 h1, Y7, show (i + 1).toNat = i.toNat + 1 by omega] at hI
  have hnn := wP Kh (t.drop (i.toNat + 1))
  have hge := y1w (t.getD i.toNat yh)
  have hk := Ki (t.getD i.toNat yh)
  have e : yD (yf t i) = some (yA (yf t i)) := YW _ (hm _ (ze yh t i h0 h1)) (by show WW VC (t.getD i.toNat yh) ≤ _; omega)
  have hT : (WX s (t.getD i.toNat yh)).length = s.length + (yA (t.getD i.toNat yh)).length := List.length_append
  have c1 : (s.length + (yA (yf t i)).length) * 40 < 140737488355328 := by
   show (s.length + (yA (t.getD i.toNat yh)).length) * 40 < 140737488355328
   generalize (yA (t.getD i.toNat yh)).length = m at hk ⊢
   clear hT e
   have : s.length + m ≤ 1048576 := by omega
   omega
  refine ⟨?_, by rw [hT]; omega⟩
  unfold Zz
  simp only [Bool.cond_eq_ite, decide_eq_true_eq, h0, h1, if_true, hw, e, Option.bind_some, c1]
  rfl
 ·intro again i s hi
  unfold Zz
  simp only [Bool.cond_eq_ite, decide_eq_true_eq, if_neg hi]
theorem y29 (a b : List y8) (h : a.length + b.length ≤ 1073741824) : YV (a, b) = some (YP a b) := by
 unfold YV Y0 Ve
 simp only [List.length_nil, Nat.zero_add, List.nil_append]
 rw [if_pos (by omega), Option.bind_some]
 refine Y2 (step := Z7 _) (fun (i : Int) (s : List y8) => (b, (b.length : Int), i, s)) (fun s => some s) yI zT b (by omega) (fun i s => s.length ≤ a.length + i) ?_ ?_ a (by simp)
 ·intro again i s h0 h1 hI
  have hw : Go.IntKind.wrap .i64 (i + 1) = i + 1 := w64 (by omega) (by omega)
  have hs := W4 s (b.getD i.toNat yI)
  have e := Vq s (y6 b i).1 (y6 b i).2.1 (y6 b i).2.2.1 (y6 b i).2.2.2.1 (y6 b i).2.2.2.2 (by omega)
  refine ⟨?_, by omega⟩
  unfold Z7
  simp only [Bool.cond_eq_ite, decide_eq_true_eq, h0, h1, if_true, hw, e, Option.bind_some]
  rfl
 ·intro again i s hi
  unfold Z7
  simp only [Bool.cond_eq_ite, decide_eq_true_eq, if_neg hi]
theorem y2E (l : List y8) (h : l.length ≤ 1073741824) : Jd l = some (ka l) := by
 unfold Jd y1u
 refine Y2 (step := WE _) (fun (i : Int) (s : List y8) => (l, (l.length : Int), i, s)) (fun s => some s) yI vQ l (by omega) (fun i s => s.length ≤ i) ?_ ?_ [] (by simp)
 ·intro again i s h0 h1 hI
  have hw : Go.IntKind.wrap .i64 (i + 1) = i + 1 := w64 (by omega) (by omega)
  have hs := y0X s (l.getD i.toNat yI)
  refine ⟨?_, by omega⟩
  have c1 : (s.length + 1) * 40 < 140737488355328 := by omega
  clear hs
  unfold WE vQ
  obtain ⟨⟨x1, x2, x3, x4, x5⟩, hx⟩ : ∃ x, y6 l i = x := ⟨_, rfl⟩
  have hx' : l.getD i.toNat yI = (x1, x2, x3, x4, x5) := hx
  rw [hx']
  simp only [Bool.cond_eq_ite, decide_eq_true_eq, h0, h1, if_true, hw, hx, List.length_cons, List.length_nil, Nat.zero_add, c1]
  by_cases h3 : x3 = 0
  ·rw [if_neg (by simpa using h3), if_pos h3]
  ·rw [if_pos (by simpa using h3), if_neg h3]
 ·intro again i s hi
  unfold WE
  simp only [Bool.cond_eq_ite, decide_eq_true_eq, if_neg hi]
theorem ju (n : List y9) (hn : n.length ≤ 1073741824) (h : WW VC n ≤ 1048576) : yN n = some (yA n) := by
 have hlen := y1v n []
 simp only [List.length_nil] at hlen
 have hD := y2E (n.foldl YP []) (by omega)
 unfold yN VS
 refine (Y2 (step := ZL _) (fun (i : Int) (s : List y8) => (n, (n.length : Int), i, s)) (fun s => Option.bind (Jd s) fun r3 => some r3) z6 YP n (by omega) (fun i s => (s.length : Int) + WW VC (n.drop i) ≤ WW VC n) ?_ ?_ [] (by simp)).trans ?_
 ·intro again i s h0 h1 hI
  have hw : Go.IntKind.wrap .i64 (i + 1) = i + 1 := w64 (by omega) (by omega)
  rw [wB z6 n i h0 h1, Y7, show (i + 1).toNat = i.toNat + 1 by omega] at hI
  have hnn := wP kO (n.drop (i.toNat + 1))
  have hm := y0g (n.getD i.toNat z6) s
  have hk : VC (n.getD i.toNat z6) = (List.length (n.getD i.toNat z6) : Int) := rfl
  have e : YV (s, yq n i) = some (YP s (yq n i)) := y29 s _ (by show s.length + List.length (n.getD i.toNat z6) ≤ _; omega)
  refine ⟨?_, by omega⟩
  unfold ZL
  simp only [Bool.cond_eq_ite, decide_eq_true_eq, h0, h1, if_true, hw, e, Option.bind_some]
  rfl
 ·intro again i s hi
  unfold ZL
  simp only [Bool.cond_eq_ite, decide_eq_true_eq, if_neg hi]
 ·rw [hD]
  rfl
theorem KB (q : List Int) (t : List y0) (ht : t.length ≤ 1073741824) (hm : ∀ n ∈ t, List.length n ≤ 1073741824) (h : WW Q2 t ≤ 1048576) : zN (q, t) = some (yn t) := by
 unfold zN VU
 refine Y2 (step := ZO _) (fun (i : Int) (s : List y8) => (t, (t.length : Int), i, s)) (fun s => some s) yh WX t (by omega) (fun i s => (s.length : Int) + WW Q2 (t.drop i) ≤ WW Q2 t) ?_ ?_ [] (by simp)
 ·intro again i s h0 h1 hI
  have hw : Go.IntKind.wrap .i64 (i + 1) = i + 1 := w64 (by omega) (by omega)
  rw [wB yh t i h0 h1, Y7, show (i + 1).toNat = i.toNat + 1 by omega] at hI
  have hnn := wP Kh (t.drop (i.toNat + 1))
  have hge := y1w (t.getD i.toNat yh)
  have hk := Ki (t.getD i.toNat yh)
  have e : yN (yf t i) = some (yA (yf t i)) := ju _ (hm _ (ze yh t i h0 h1)) (by show WW VC (t.getD i.toNat yh) ≤ _; omega)
  have hT : (WX s (t.getD i.toNat yh)).length = s.length + (yA (t.getD i.toNat yh)).length := List.length_append
  have c1 : (s.length + (yA (yf t i)).length) * 40 < 140737488355328 := by
   show (s.length + (yA (t.getD i.toNat yh)).length) * 40 < 140737488355328
   generalize (yA (t.getD i.toNat yh)).length = m at hk ⊢
   clear hT e
   have : s.length + m ≤ 1048576 := by omega
   omega
  refine ⟨?_, by rw [hT]; omega⟩
  unfold ZO
  simp only [Bool.cond_eq_ite, decide_eq_true_eq, h0, h1, if_true, hw, e, Option.bind_some, c1]
  rfl
 ·intro again i s hi
  unfold ZO
  simp only [Bool.cond_eq_ite, decide_eq_true_eq, if_neg hi]
end Go.Proofs.YtjllpipmaejeoaaGreat.Pl
namespace Go.Proofs.YtjllpipmaejeoaaGreat.Pl
open Go.Proofs.YtjllpipmaejeoaaGreat.R Go.Proofs.YtjllpipmaejeoaaGreat.XU
def y8K {S A R : Type} (g : Int → S → A → Except (Option R) S) (k : S → Option R) : List A → Int → S → Option R
 | [], _, s => k s
 | a :: l, i, s => match g i s a with
  | .error r => r
  | .ok s' => y8K g k l (i + 1) s'
theorem y8L {T A S R : Type} {step : (T → Option R) → T → Option R} (mk : Int → S → T) (g : Int → S → A → Except (Option R) S) (k : S → Option R) (da : A) (l : List A) (hl : l.length ≤ 1099511627776) (I : Nat → S → Prop)
  (h : ∀ again i s, 0 ≤ i → i < (l.length : Int) → I i.toNat s → (step again (mk i s) = match g i s (l.getD i.toNat da) with
   | .error r => r
   | .ok s' => again (mk (i + 1) s')) ∧ ∀ s', g i s (l.getD i.toNat da) = .ok s' → I (i.toNat + 1) s')
  (hd : ∀ again i s, ¬ i < (l.length : Int) → step again (mk i s) = k s) (s : S) (hs : I 0 s) : zL step Y4 (mk 0 s) = y8K g k l 0 s := by
 have key : ∀ (n : Nat) (i : Int) (s : S), 0 ≤ i → i ≤ l.length → I i.toNat s → l.length - i.toNat < n → zL step n (mk i s) = y8K g k (l.drop i.toNat) i s := by
  intro n
  induction n with
  | zero => intro i s _ _ _ hn; omega
  | succ n ih =>
   intro i s h0 h1 hI hn
   rw [zL]
   by_cases hi : i < (l.length : Int)
   ·obtain ⟨e, hI'⟩ := h (zL step n) i s h0 hi hI
    have e1 : (i + 1).toNat = i.toNat + 1 := by omega
    rw [e, wB da l i h0 hi, y8K]
    cases hg : g i s (l.getD i.toNat da) with
    | error r => rfl
    | ok s' => exact ih (i + 1) s' (by omega) (by omega) (by rw [e1]; exact hI' s' hg) (by omega)
   ·rw [hd _ i s hi, List.drop_of_length_le (by omega)]
    rfl
 have := key Y4 0 s (by omega) (by omega) hs (by rw [y0T]; simp; omega)
 simpa using this
def zQ {A : Type} (p : A → Bool) : List A → Int → Int
 | [], _ => -1
 | a :: l, i => if p a then i else zQ p l (i + 1)
theorem y8M {A R : Type} (p : A → Bool) (hit : Int → Option R) (miss : Option R) : ∀ (l : List A) (i : Int), 0 ≤ i → y8K (fun i (_ : Unit) a => if p a then .error (hit i) else .ok ()) (fun _ => miss) l i () = if zQ p l i < 0 then miss else hit (zQ p l i)
 | [], i, _ => by simp [y8K, zQ]
 | a :: l, i, h => by
  rw [y8K, zQ]
  by_cases hp : p a = true
  ·rw [if_pos hp, if_pos hp, if_neg (by omega)]
  ·rw [if_neg hp, if_neg hp]
   exact y8M p hit miss l (i + 1) (by omega)
theorem Ze {T A R : Type} {step : (T → Option R) → T → Option R} (mk : Int → T) (p : A → Bool) (hit : Int → Option R) (miss : Option R) (da : A) (l : List A) (hl : l.length ≤ 1099511627776)
  (h : ∀ again i, 0 ≤ i → i < (l.length : Int) → step again (mk i) = if p (l.getD i.toNat da) then hit i else again (mk (i + 1)))
  (hd : ∀ again i, ¬ i < (l.length : Int) → step again (mk i) = miss) : zL step Y4 (mk 0) = if zQ p l 0 < 0 then miss else hit (zQ p l 0) := by
 rw [← y8M p hit miss l 0 (Int.le_refl _)]
 refine y8L (fun i (_ : Unit) => mk i) _ _ da l hl (fun _ _ => True) (fun again i s h0 h1 _ => ⟨?_, fun _ _ => trivial⟩) (fun again i s hi => hd again i hi) () trivial
 rw [h again i h0 h1]
 cases p (l.getD i.toNat da) <;> rfl
theorem YE {A : Type} (p : A → Bool) (da : A) : ∀ (l : List A) (i : Int), 0 ≤ i → zQ p l i = -1 ∨ (i ≤ zQ p l i ∧ zQ p l i < i + l.length ∧ p (l.getD (zQ p l i - i).toNat da) = true)
 | [], i, _ => .inl rfl
 | a :: l, i, h => by
  rw [zQ]
  by_cases hp : p a = true
  ·rw [if_pos hp]
   refine .inr ⟨Int.le_refl _, by simp only [List.length_cons]; omega, ?_⟩
   simpa using hp
  ·rw [if_neg hp]
   rcases YE p da l (i + 1) (by omega) with e | ⟨e1, e2, e3⟩
   ·exact .inl e
   ·refine .inr ⟨by omega, by simp only [List.length_cons]; omega, ?_⟩
    rw [show (zQ p l (i + 1) - i).toNat = (zQ p l (i + 1) - (i + 1)).toNat + 1 by omega, List.getD_cons_succ]
    exact e3
def zJ (l : List ya) (id : Int) : Int := zQ (fun a : ya => a.1 == id) l 0
theorem y0h (l : List ya) (id : Int) : zJ l id = -1 ∨ (0 ≤ zJ l id ∧ zJ l id < l.length ∧ (l.getD (zJ l id).toNat zA).1 = id) := by
 rcases YE (fun a : ya => a.1 == id) zA l 0 (Int.le_refl _) with h | ⟨h1, h2, h3⟩
 ·exact .inl h
 ·refine .inr ⟨h1, by simpa [zJ] using h2, ?_⟩
  have := eq_of_beq h3
  simpa [zJ] using this
theorem Zf (l : List ya) (id : Int) (hl : l.length ≤ 1073741824) : zK (l, id) = some (zJ l id) := by
 unfold zK y0B
 refine (Ze (step := wh _ _) (fun i => (l, id, i)) (fun a : ya => a.1 == id) (fun x => some x) (some (-1)) zA l (by omega) ?_ ?_).trans ?_
 ·intro again i h0 h1
  have hw : Go.IntKind.wrap .i64 (i + 1) = i + 1 := w64 (by omega) (by omega)
  unfold wh
  simp only [Bool.cond_eq_ite, decide_eq_true_eq, h0, h1, if_true, hw]
  rfl
 ·intro again i hi
  unfold wh
  simp only [Bool.cond_eq_ite, decide_eq_true_eq, if_neg hi]
 ·rcases y0h l id with h | ⟨h1, h2, h3⟩ <;> unfold zJ at *
  ·rw [h]
   rfl
  ·rw [if_neg (by omega)]
theorem KR (l : List ya) (id : Int) (hl : l.length ≤ 1073741824) : Z9 (l, id) = some (zJ l id) := by
 have key : z3 (l, id) = some (zJ l id, id) := by
  unfold z3 Yv
  refine (Ze (step := yW _ _) (fun i => (l, (l.length : Int), i, id)) (fun a : ya => a.1 == id) (fun x => some (x, id)) (some (-1, id)) zA l (by omega) ?_ ?_).trans ?_
  ·intro again i h0 h1
   have hw : Go.IntKind.wrap .i64 (i + 1) = i + 1 := w64 (by omega) (by omega)
   unfold yW K2
   simp only [Bool.cond_eq_ite, decide_eq_true_eq, h0, h1, if_true, hw, Option.bind_some]
   rfl
  ·intro again i hi
   unfold yW
   simp only [Bool.cond_eq_ite, decide_eq_true_eq, if_neg hi]
  ·rcases y0h l id with h | ⟨h1, h2, h3⟩ <;> unfold zJ at *
   ·rw [h]
    rfl
   ·rw [if_neg (by omega)]
 unfold Z9
 rw [key]
 rfl
def yfB (l : List Int) (v : Int) : Bool := decide (0 ≤ zQ (fun a : Int => a == v) l 0)
theorem yaK (l : List Int) (v : Int) (hl : l.length ≤ 1073741824) : Ke (l, v) = some (yfB l v) := by
 unfold Ke y0E
 refine (Ze (step := wq _ _) (fun i => (l, v, i)) (fun a : Int => a == v) (fun _ => some true) (some false) y27 l (by omega) ?_ ?_).trans ?_
 ·intro again i h0 h1
  have hw : Go.IntKind.wrap .i64 (i + 1) = i + 1 := w64 (by omega) (by omega)
  unfold wq
  simp only [Bool.cond_eq_ite, decide_eq_true_eq, h0, h1, if_true, hw]
  rfl
 ·intro again i hi
  unfold wq
  simp only [Bool.cond_eq_ite, decide_eq_true_eq, if_neg hi]
 ·unfold yfB
  by_cases h : zQ (fun a : Int => a == v) l 0 < 0
  ·rw [if_pos h, decide_eq_false (by omega)]
  ·rw [if_neg h, decide_eq_true (by omega)]
theorem yaL (l : List Int) (v : Int) (hl : l.length ≤ 1073741824) : Yk (l, v) = some (yfB l v) := by
 have key : Zc (l, v) = some (zQ (fun a : Int => a == v) l 0) := by
  unfold Zc KK
  refine (Ze (step := Yw _ _) (fun i => (l, v, (l.length : Int), i)) (fun a : Int => a == v) (fun x => some x) (some (-1)) y27 l (by omega) ?_ ?_).trans ?_
  ·intro again i h0 h1
   have hw : Go.IntKind.wrap .i64 (i + 1) = i + 1 := w64 (by omega) (by omega)
   unfold Yw
   have e : (v == (zu l i)) = ((zu l i) == v) := Bool.beq_comm
   simp only [Bool.cond_eq_ite, decide_eq_true_eq, h0, h1, if_true, hw, e]
   rfl
  ·intro again i hi
   unfold Yw
   simp only [Bool.cond_eq_ite, decide_eq_true_eq, if_neg hi]
  ·rcases YE (fun a : Int => a == v) y27 l 0 (Int.le_refl _) with h | ⟨h1, h2, h3⟩
   ·rw [h]
    rfl
   ·rw [if_neg (by omega)]
 unfold Yk
 rw [key]
 rfl
def VZ (l : List ya) : Nat → Int → List Int
 | 0, _ => []
 | n + 1, at_ => if at_ < 0 then [] else (l.getD at_.toNat zA).1 :: VZ l n (zJ l (l.getD at_.toNat zA).2)
def wC (l : List ya) (id : Int) : List Int := VZ l (l.length + 1) (zJ l id)
theorem y42 (l : List ya) (n : Nat) (i : Int) (h : 0 ≤ i) : VZ l (n + 1) i = (l.getD i.toNat zA).1 :: VZ l n (zJ l (l.getD i.toNat zA).2) := by rw [VZ, if_neg (by omega)]
theorem yeZ (l : List ya) (n : Nat) : VZ l n (-1) = [] := by cases n <;> simp [VZ]
theorem y8N (l : List ya) : ∀ (n : Nat) (i : Int), (VZ l n i).length ≤ n
 | 0, _ => by simp [VZ]
 | n + 1, i => by
  rw [VZ]
  split
  ·simp
  ·have := y8N l n (zJ l (l.getD i.toNat zA).2)
   simp only [List.length_cons]
   omega
theorem y0H (l : List ya) (id : Int) (hl : l.length ≤ 1048576) : JK (l, id) = some (wC l id) := by
 unfold JK Qs wC
 rw [Zf l id (by omega), Option.bind_some]
 have key := YM (step := Wo (fun x4 => some x4)) (fun t : Wn => l.length + 1 - t.2.2.length) (fun t => t.1 = l ∧ t.2.2.length ≤ l.length + 1 ∧ ∃ id, t.2.1 = zJ l id) (fun t => some (t.2.2 ++ VZ l (l.length + 1 - t.2.2.length) t.2.1)) ?_ (l, zJ l id, []) ⟨rfl, by simp, id, rfl⟩ (by simp; omega)
 ·simpa using key
 ·rintro again ⟨l', at_, o⟩ ⟨hll, ho, id', hid⟩ hag
  simp only at hll ho hid
  subst hll hid
  unfold Wo
  simp only [Bool.cond_eq_ite, decide_eq_true_eq, List.length_cons, List.length_nil, Nat.zero_add]
  rcases y0h l' id' with h | ⟨h1, h2, h3⟩
  ·rw [h]
   have : VZ l' (l'.length + 1 - o.length) (-1) = [] := by
    cases l'.length + 1 - o.length <;> simp [VZ]
   simp [this]
  ·simp only [ge_iff_le, h1, if_true, h2]
   by_cases hlen : (o.length : Int) ≤ (l'.length : Int)
   ·have e := Zf l' (yO l' (zJ l' id')).2 (by omega)
    rw [show l'.length + 1 - o.length = (l'.length - o.length) + 1 by omega, y42 _ _ _ h1]
    simp only [hlen, decide_true, Option.bind_some, if_true, e]
    have hl1 : (o ++ [(yO l' (zJ l' id')).1]).length = o.length + 1 := by simp
    rw [if_pos (by omega), hag (l', zJ l' (yO l' (zJ l' id')).2, o ++ [(yO l' (zJ l' id')).1]) ⟨rfl, by show (o ++ [(yO l' (zJ l' id')).1]).length ≤ _; omega, _, rfl⟩ (by show l'.length + 1 - (o ++ [(yO l' (zJ l' id')).1]).length < l'.length + 1 - o.length; omega)]
    simp only [hl1]
    rw [show l'.length + 1 - (o.length + 1) = l'.length - o.length by omega, List.append_assoc]
    rfl
   ·rw [show l'.length + 1 - o.length = 0 by omega]
    simp [hlen, VZ]
theorem y4W (l : List ya) (id : Int) (hl : l.length ≤ 1048576) : WR (l, id) = some (wC l id) := by
 unfold WR QK wC
 simp only
 rw [w64 (n := (l.length : Int) + 1) (by omega) (by omega)]
 have key := YM (step := WQ (fun x2 => some x2)) (fun t : WP => l.length + 1 - t.2.2.2.2.length) (fun t => t.1 = l ∧ t.2.2.1 = (l.length : Int) + 1 ∧ t.2.2.2.1 = (t.2.2.2.2.length : Int) ∧ t.2.2.2.2.length ≤ l.length + 1) (fun t => some (t.2.2.2.2 ++ VZ l (l.length + 1 - t.2.2.2.2.length) (zJ l t.2.1))) ?_ (l, id, (l.length : Int) + 1, 0, []) ⟨rfl, rfl, by simp, by simp⟩ (by simp; omega)
 ·simpa using key
 ·rintro again ⟨l', id', n, i, o⟩ ⟨hll, hn, hi, ho⟩ hag
  simp only at hll ho hn hi
  subst hll hn hi
  unfold WQ
  have e := KR l' id' (by omega)
  simp only [Bool.cond_eq_ite, decide_eq_true_eq, e, Option.bind_some, List.length_cons, List.length_nil, Nat.zero_add]
  by_cases hlen : (o.length : Int) < (l'.length : Int) + 1
  ·rw [if_pos hlen, show l'.length + 1 - o.length = (l'.length - o.length) + 1 by omega]
   rcases y0h l' id' with h | ⟨h1, h2, h3⟩
   ·rw [h, yeZ]
    simp
   ·have hw : Go.IntKind.wrap .i64 ((o.length : Int) + 1) = (o.length : Int) + 1 := w64 (by omega) (by omega)
    have hl1 : (o ++ [id']).length = o.length + 1 := by simp
    rw [y42 _ _ _ h1, if_neg (by omega), if_pos (by omega), if_pos h1, if_pos h2, hw, hag (l', (yO l' (zJ l' id')).2, (l'.length : Int) + 1, (o.length : Int) + 1, o ++ [id']) ⟨rfl, rfl, by show _ = ((o ++ [id']).length : Int); rw [hl1]; rfl, by show (o ++ [id']).length ≤ _; omega⟩ (by show l'.length + 1 - (o ++ [id']).length < l'.length + 1 - o.length; omega), h3]
    simp only [hl1]
    rw [show l'.length + 1 - (o.length + 1) = l'.length - o.length by omega, List.append_assoc]
    rfl
  ·rw [if_neg hlen, show l'.length + 1 - o.length = 0 by omega]
   simp [VZ]
end Go.Proofs.YtjllpipmaejeoaaGreat.Pl
namespace Go.Proofs.YtjllpipmaejeoaaGreat.Pl
open Go.Proofs.YtjllpipmaejeoaaGreat.R Go.Proofs.YtjllpipmaejeoaaGreat.XU
theorem Zp (x a b : Int) : yC (x, a, b) = some (inR x a b) := by
 unfold yC inR
 by_cases h : x ≥ a <;> simp [h]
theorem YN (x a b : Int) : yF (x, a, b) = some (inR x a b) := by
 unfold yF inR
 by_cases h : x ≥ a <;> simp [h]
theorem bi (x y : Int) : ((x == y) = true) = (x = y) := by simp
end Go.Proofs.YtjllpipmaejeoaaGreat.Pl
namespace Go.Proofs.YtjllpipmaejeoaaGreat.Pl
open Go.Proofs.YtjllpipmaejeoaaGreat.R Go.Proofs.YtjllpipmaejeoaaGreat.XU
def Ym {A : Type} (p : Int → A → Bool) : List A → Int → Bool
 | [], _ => false
 | a :: l, i => p i a || Ym p l (i + 1)
theorem yaM {A : Type} (p q : Int → A → Bool) : ∀ (l : List A) (i : Int), Ym (fun i a => p i a || q i a) l i = (Ym p l i || Ym q l i)
 | [], _ => rfl
 | a :: l, i => by
  rw [Ym, Ym, Ym, yaM p q l (i + 1)]
  cases p i a <;> cases q i a <;> cases Ym p l (i + 1) <;> rfl
theorem y5L {A : Type} {p q : Int → A → Bool} : ∀ (l : List A) (i : Int), (∀ j a, i ≤ j → p j a = q j a) → Ym p l i = Ym q l i
 | [], _, _ => rfl
 | a :: l, i, h => by rw [Ym, Ym, h i a (Int.le_refl _), y5L l (i + 1) (fun j a hj => h j a (by omega))]
theorem JT {A : Type} (da : A) {p : Int → A → Bool} : ∀ (l : List A) (i : Int), Ym p l i = false → ∀ j : Nat, j < l.length → p (i + j) (l.getD j da) = false
 | a :: l, i, h, 0, _ => by
  rw [Ym, Bool.or_eq_false_iff] at h
  simpa using h.1
 | a :: l, i, h, j + 1, hj => by
  rw [Ym, Bool.or_eq_false_iff] at h
  have := JT da l (i + 1) h.2 j (by simpa using hj)
  rw [show i + ((j + 1 : Nat) : Int) = i + 1 + (j : Int) by omega, List.getD_cons_succ]
  exact this
theorem y3i {A S R : Type} (p : Int → A → Bool) (f : S → A → S) (r : Option R) (k : S → Option R) : ∀ (l : List A) (i : Int) (s : S), y8K (fun i s a => if p i a = true then .error r else .ok (f s a)) k l i s = if Ym p l i = true then r else k (l.foldl f s)
 | [], _, _ => by simp [y8K, Ym]
 | a :: l, i, s => by
  rw [y8K, Ym]
  by_cases h : p i a = true
  ·simp [h]
  ·have hf : p i a = false := by simpa using h
   simp only [hf, Bool.false_eq_true, if_false, Bool.false_or, List.foldl_cons]
   exact y3i p f r k l (i + 1) (f s a)
theorem y43 {T A S R : Type} {step : (T → Option R) → T → Option R} (mk : Int → S → T) (g : Int → S → A → Except (Option R) S) (k : S → Option R) (da : A) (l : List A) (hl : l.length ≤ 1099511627776) (I : Nat → S → Prop)
  (h : ∀ again i s, 0 ≤ i → i < (l.length : Int) → I i.toNat s → (step again (mk i s) = match g i s (l.getD i.toNat da) with
   | .error r => r
   | .ok s' => again (mk (i + 1) s')) ∧ ∀ s', g i s (l.getD i.toNat da) = .ok s' → I (i.toNat + 1) s')
  (hd : ∀ again i s, ¬ i < (l.length : Int) → step again (mk i s) = k s) (i0 : Int) (h00 : 0 ≤ i0) (s : S) (hs : I i0.toNat s) : zL step Y4 (mk i0 s) = y8K g k (l.drop i0.toNat) i0 s := by
 have key : ∀ (n : Nat) (i : Int) (s : S), 0 ≤ i → I i.toNat s → l.length - i.toNat < n → zL step n (mk i s) = y8K g k (l.drop i.toNat) i s := by
  intro n
  induction n with
  | zero => intro i s _ _ hn; omega
  | succ n ih =>
   intro i s h0 hI hn
   rw [zL]
   by_cases hi : i < (l.length : Int)
   ·obtain ⟨e, hI'⟩ := h (zL step n) i s h0 hi hI
    have e1 : (i + 1).toNat = i.toNat + 1 := by omega
    rw [e, wB da l i h0 hi, y8K]
    cases hg : g i s (l.getD i.toNat da) with
    | error r => rfl
    | ok s' => exact ih (i + 1) s' (by omega) (by rw [e1]; exact hI' s' hg) (by omega)
   ·rw [hd _ i s hi, List.drop_of_length_le (by omega)]
    rfl
 exact key Y4 i0 s h00 hs (by rw [y0T]; omega)
theorem y3j {T A S R : Type} {step : (T → Option R) → T → Option R} (mk : Int → S → T) (p : Int → A → Bool) (f : S → A → S) (r : Option R) (k : S → Option R) (da : A) (l : List A) (hl : l.length ≤ 1099511627776)
  (h : ∀ again i s, 0 ≤ i → i < (l.length : Int) → step again (mk i s) = if p i (l.getD i.toNat da) = true then r else again (mk (i + 1) (f s (l.getD i.toNat da))))
  (hd : ∀ again i s, ¬ i < (l.length : Int) → step again (mk i s) = k s) (s : S) : zL step Y4 (mk 0 s) = if Ym p l 0 = true then r else k (l.foldl f s) := by
 rw [← y3i p f r k l 0 s]
 have := y43 (step := step) mk (fun i s a => if p i a = true then .error r else .ok (f s a)) k da l hl (fun _ _ => True) (fun again i s h0 h1 _ => ⟨?_, fun _ _ => trivial⟩) hd 0 (Int.le_refl _) s trivial
 ·simpa using this
 ·rw [h again i s h0 h1]
  by_cases hp : p i (l.getD i.toNat da) = true
  ·rw [if_pos hp, if_pos hp]
  ·rw [if_neg hp, if_neg hp]
theorem zP {T A R : Type} {step : (T → Option R) → T → Option R} (mk : Int → T) (p : Int → A → Bool) (r k : Option R) (da : A) (l : List A) (hl : l.length ≤ 1099511627776)
  (h : ∀ again i, 0 ≤ i → i < (l.length : Int) → step again (mk i) = if p i (l.getD i.toNat da) = true then r else again (mk (i + 1)))
  (hd : ∀ again i, ¬ i < (l.length : Int) → step again (mk i) = k) : zL step Y4 (mk 0) = if Ym p l 0 = true then r else k :=
 y3j (fun i (_ : Unit) => mk i) p (fun _ _ => ()) r (fun _ => k) da l hl (fun again i _ h0 h1 => h again i h0 h1) (fun again i _ hi => hd again i hi) ()
end Go.Proofs.YtjllpipmaejeoaaGreat.Pl
namespace Go.Proofs.YtjllpipmaejeoaaGreat.Pl
open Go.Proofs.YtjllpipmaejeoaaGreat.R Go.Proofs.YtjllpipmaejeoaaGreat.XU
def QP (blk : Int) (s : List y8) (a : y8) : List y8 := if a.1 == blk then s ++ [a] else s
def Zr (ks : List y8) (blk : Int) : List y8 := ks.foldl (QP blk) []
theorem y2a (blk : Int) (s : List y8) (a : y8) : (QP blk s a).length ≤ s.length + 1 := by
 unfold QP
 split <;> simp
theorem y44 (blk : Int) : ∀ (l s : List y8), (l.foldl (QP blk) s).length ≤ s.length + l.length
 | [], s => by simp
 | c :: l, s => by
  have h := y44 blk l (QP blk s c)
  have h2 := y2a blk s c
  simp only [List.foldl_cons, List.length_cons]
  omega
theorem y8O : ∀ (t : List y0) (s : List y8), ((t.foldl WX s).length : Int) ≤ s.length + WW Q2 t
 | [], s => by simp [WW]
 | n :: t, s => by
  have h := y8O t (WX s n)
  have h1 := Ki n
  have h2 := y1w n
  have h3 : (WX s n).length = s.length + (yA n).length := List.length_append
  simp only [List.foldl_cons, Y7]
  omega
theorem yf0 (t : List y0) : ((yn t).length : Int) ≤ WW Q2 t := by
 have := y8O t []
 simpa [yn] using this
structure TOk (t : List y0) : Prop where
 len : t.length ≤ 1048576
 nodes : ∀ n ∈ t, List.length n ≤ 1073741824
 sum : WW Q2 t ≤ 1048576
theorem TOk.keys {t : List y0} (h : TOk t) : (yn t).length ≤ 1048576 := by
 have h1 := yf0 t
 have h2 := h.sum
 omega
theorem y4X (q : List Int) (t : List y0) (blk : Int) (ht : TOk t) : Wp (q, t, blk) = some (Zr (yn t) blk) := by
 unfold Wp Qt
 have hk := ht.keys
 have e : yM (q, t) = some (yn t) := Ys q t (by have := ht.len; omega) ht.nodes ht.sum
 simp only [e, Option.bind_some]
 generalize yn t = ks at hk
 refine Y2 (step := J0 _) (fun (i : Int) (s : List y8) => (blk, i, s, ks)) (fun s => some s) yI (QP blk) ks (by omega) (fun i s => s.length ≤ i) ?_ ?_ [] (by simp)
 ·intro again i s h0 h1 hI
  have hw : Go.IntKind.wrap .i64 (i + 1) = i + 1 := w64 (by omega) (by omega)
  have hs := y2a blk s (ks.getD i.toNat yI)
  refine ⟨?_, by omega⟩
  have c1 : (s.length + 1) * 40 < 140737488355328 := by omega
  clear hs
  unfold J0 QP
  obtain ⟨⟨x1, x2, x3, x4, x5⟩, hx⟩ : ∃ x, y6 ks i = x := ⟨_, rfl⟩
  have hx' : ks.getD i.toNat yI = (x1, x2, x3, x4, x5) := hx
  rw [hx']
  simp only [Bool.cond_eq_ite, decide_eq_true_eq, h0, h1, if_true, hw, hx, List.length_cons, List.length_nil, Nat.zero_add, c1]
  by_cases h3 : (x1 == blk) = true
  ·rw [if_pos h3, if_pos h3]
  ·rw [if_neg h3, if_neg h3]
 ·intro again i s hi
  unfold J0
  simp only [Bool.cond_eq_ite, decide_eq_true_eq, if_neg hi]
theorem y4Y (q : List Int) (t : List y0) (blk : Int) (ht : TOk t) : WN (q, t, blk) = some (Zr (yn t) blk) := by
 unfold WN QI
 have hk := ht.keys
 have e : zN (q, t) = some (yn t) := KB q t (by have := ht.len; omega) ht.nodes ht.sum
 simp only [e, Option.bind_some]
 generalize yn t = ks at hk
 refine Y2 (step := Jp _) (fun (i : Int) (s : List y8) => (blk, (ks.length : Int), i, s, ks)) (fun s => some s) yI (QP blk) ks (by omega) (fun i s => s.length ≤ i) ?_ ?_ [] (by simp)
 ·intro again i s h0 h1 hI
  have hw : Go.IntKind.wrap .i64 (i + 1) = i + 1 := w64 (by omega) (by omega)
  have hs := y2a blk s (ks.getD i.toNat yI)
  refine ⟨?_, by omega⟩
  have c1 : (s.length + 1) * 40 < 140737488355328 := by omega
  clear hs
  unfold Jp QP
  obtain ⟨⟨x1, x2, x3, x4, x5⟩, hx⟩ : ∃ x, y6 ks i = x := ⟨_, rfl⟩
  have hx' : ks.getD i.toNat yI = (x1, x2, x3, x4, x5) := hx
  rw [hx']
  simp only [Bool.cond_eq_ite, decide_eq_true_eq, h0, h1, if_true, hw, hx, List.length_cons, List.length_nil, Nat.zero_add, c1]
  by_cases h3 : (x1 == blk) = true
  ·rw [if_pos h3, if_pos h3]
  ·rw [if_neg h3, if_neg h3]
 ·intro again i s hi
  unfold Jp
  simp only [Bool.cond_eq_ite, decide_eq_true_eq, if_neg hi]
def wR (path : List Int) (s : Bool × y8) (a : y8) : Bool × y8 := if yfB path a.2.1 = true ∧ (s.1 = false ∨ s.2.2.1 < a.2.1) then (true, a) else s
def YR (ks : List y8) (path : List Int) : Bool × y8 := ks.foldl (wR path) (false, (0, 0, 0, 0, 0))
def ans (r : Bool × y8) : Int × Int × Int × Int × Int × Bool := (r.2.1, r.2.2.1, r.2.2.2.1, r.2.2.2.2.1, r.2.2.2.2.2, r.1)
theorem y2F (q : List Int) (t : List y0) (blk : Int) (path : List Int) (ht : TOk t) (hp : path.length ≤ 1073741824) : ja (q, t, blk, path) = some (ans (YR (Zr (yn t) blk) path)) := by
 unfold ja Qu
 have hk : (Zr (yn t) blk).length ≤ 1048576 := by
  have h1 := y44 blk (yn t) []
  have h2 := ht.keys
  unfold Zr
  simp only [List.length_nil] at h1
  omega
 simp only [y4X q t blk ht, Option.bind_some]
 generalize Zr (yn t) blk = ks at hk
 refine (Y2 (step := J1 _) (fun (i : Int) (s : Bool × y8) => (path, s.1, i, 0, 0, 0, 0, 0, s.2.1, s.2.2.1, s.2.2.2.1, s.2.2.2.2.1, s.2.2.2.2.2, ks)) (fun s => some (ans s)) yI (wR path) ks (by omega) (fun _ _ => True) ?_ ?_ (false, (0, 0, 0, 0, 0)) trivial)
 ·rintro again i ⟨f, b1, b2, b3, b4, b5⟩ h0 h1 _
  have hw : Go.IntKind.wrap .i64 (i + 1) = i + 1 := w64 (by omega) (by omega)
  refine ⟨?_, trivial⟩
  unfold J1 wR
  obtain ⟨⟨x1, x2, x3, x4, x5⟩, hx⟩ : ∃ x, y6 ks i = x := ⟨_, rfl⟩
  have hx' : ks.getD i.toNat yI = (x1, x2, x3, x4, x5) := hx
  rw [hx']
  have e := yaK path x2 hp
  simp only [Bool.cond_eq_ite, decide_eq_true_eq, h0, h1, if_true, hw, hx, e, Option.bind_some]
  cases yfB path x2 <;> cases f <;> by_cases hb : b2 < x2 <;> simp [hb]
 ·rintro again i ⟨f, b1, b2, b3, b4, b5⟩ hi
  unfold J1
  simp only [Bool.cond_eq_ite, decide_eq_true_eq, if_neg hi]
  rfl
theorem y4Z (q : List Int) (t : List y0) (blk : Int) (path : List Int) (ht : TOk t) (hp : path.length ≤ 1073741824) : WO (q, t, blk, path) = some (ans (YR (Zr (yn t) blk) path)) := by
 unfold WO QJ
 have hk : (Zr (yn t) blk).length ≤ 1048576 := by
  have h1 := y44 blk (yn t) []
  have h2 := ht.keys
  unfold Zr
  simp only [List.length_nil] at h1
  omega
 simp only [y4Y q t blk ht, Option.bind_some]
 generalize Zr (yn t) blk = ks at hk
 refine (Y2 (step := Jq _) (fun (i : Int) (s : Bool × y8) => (path, s.1, (ks.length : Int), i, 0, 0, 0, 0, 0, s.2.1, s.2.2.1, s.2.2.2.1, s.2.2.2.2.1, s.2.2.2.2.2, ks)) (fun s => some (ans s)) yI (wR path) ks (by omega) (fun _ _ => True) ?_ ?_ (false, (0, 0, 0, 0, 0)) trivial)
 ·rintro again i ⟨f, b1, b2, b3, b4, b5⟩ h0 h1 _
  have hw : Go.IntKind.wrap .i64 (i + 1) = i + 1 := w64 (by omega) (by omega)
  refine ⟨?_, trivial⟩
  unfold Jq wR
  obtain ⟨⟨x1, x2, x3, x4, x5⟩, hx⟩ : ∃ x, y6 ks i = x := ⟨_, rfl⟩
  have hx' : ks.getD i.toNat yI = (x1, x2, x3, x4, x5) := hx
  rw [hx']
  have e := yaL path x2 hp
  simp only [Bool.cond_eq_ite, decide_eq_true_eq, h0, h1, if_true, hw, hx, e, Option.bind_some]
  cases yfB path x2 <;> cases f <;> by_cases hb : b2 < x2 <;> simp [hb]
 ·rintro again i ⟨f, b1, b2, b3, b4, b5⟩ hi
  unfold Jq
  simp only [Bool.cond_eq_ite, decide_eq_true_eq, if_neg hi]
  rfl
def yd2 (t : List y0) (l : List ya) (blk id : Int) : Bool × y8 := YR (Zr (yn t) blk) (wC l id)
theorem y2b (l : List ya) (id : Int) (hl : l.length ≤ 1048576) : (wC l id).length ≤ 1073741824 := by
 have := y8N l (l.length + 1) (zJ l id)
 unfold wC
 omega
theorem y8P (q : List Int) (t : List y0) (l : List ya) (blk id : Int) (ht : TOk t) (hl : l.length ≤ 1048576) : vr (q, t, l, blk, id) = some (ans (yd2 t l blk id)) := by
 unfold vr
 simp only [y0H l id hl, y2F q t blk _ ht (y2b l id hl), Option.bind_some]
 rfl
theorem y8Q (q : List Int) (t : List y0) (l : List ya) (blk id : Int) (ht : TOk t) (hl : l.length ≤ 1048576) : vO (q, t, l, blk, id) = some (ans (yd2 t l blk id)) := by
 unfold vO
 simp only [y4W l id hl, y4Z q t blk _ ht (y2b l id hl), Option.bind_some]
 rfl
def ygP (t : List y0) (l : List ya) (k : y8) (id : Int) : Bool := (yd2 t l k.1 id).1 && ((yd2 t l k.1 id).2.2.1 == k.2.1)
theorem y8R (q : List Int) (t : List y0) (l : List ya) (k1 k2 k3 k4 k5 id : Int) (ht : TOk t) (hl : l.length ≤ 1048576) : vt (q, t, l, k1, k2, k3, k4, k5, id) = some (ygP t l (k1, k2, k3, k4, k5) id) := by
 unfold vt ygP
 simp only [y8P q t l k1 id ht hl, Option.bind_some, ans]
 cases (yd2 t l k1 id).1 <;> rfl
def y7D (t : List y0) (l : List ya) (k : y8) (v : ye) : Bool := decide (v.2.2.1 > k.1) && ygP t l k v.2.1
def yaN (t : List y0) (l : List ya) (vs : List ye) (k : y8) : Bool := decide (0 ≤ zQ (y7D t l k) vs 0)
theorem y2c (q : List Int) (t : List y0) (l : List ya) (cs : List y7) (vs : List ye) (z k1 k2 k3 k4 k5 : Int) (ht : TOk t) (hl : l.length ≤ 1048576) (hv : vs.length ≤ 1048576) : jn (q, t, l, cs, vs, z, k1, k2, k3, k4, k5) = some (yaN t l vs (k1, k2, k3, k4, k5)) := by
 unfold jn Vb
 refine (Ze (step := Z3 _ _) (fun i => (i, q, t, l, cs, vs, z, k1, k2, k3, k4, k5)) (y7D t l (k1, k2, k3, k4, k5)) (fun _ => some true) (some false) Yu vs (by omega) ?_ ?_).trans ?_
 ·intro again i h0 h1
  have hw : Go.IntKind.wrap .i64 (i + 1) = i + 1 := w64 (by omega) (by omega)
  unfold Z3 y7D
  obtain ⟨⟨x1, x2, x3, x4⟩, hx⟩ : ∃ x, yj vs i = x := ⟨_, rfl⟩
  have hx' : vs.getD i.toNat Yu = (x1, x2, x3, x4) := hx
  rw [hx']
  have e := y8R q t l k1 k2 k3 k4 k5 x2 ht hl
  simp only [Bool.cond_eq_ite, decide_eq_true_eq, h0, h1, if_true, hw, hx, e, Option.bind_some]
  by_cases hb : x3 > k1 <;> cases ygP t l (k1, k2, k3, k4, k5) x2 <;> simp [hb]
 ·intro again i hi
  unfold Z3
  simp only [Bool.cond_eq_ite, decide_eq_true_eq, if_neg hi]
 ·unfold yaN
  by_cases h : zQ (y7D t l (k1, k2, k3, k4, k5)) vs 0 < 0
  ·rw [if_pos h, decide_eq_false (by omega)]
  ·rw [if_neg h, decide_eq_true (by omega)]
end Go.Proofs.YtjllpipmaejeoaaGreat.Pl
namespace Go.Proofs.YtjllpipmaejeoaaGreat.Pl
open Go.Proofs.YtjllpipmaejeoaaGreat.R Go.Proofs.YtjllpipmaejeoaaGreat.XU
def zR (k : y8) : Bool := inR k.1 0 15 && (inR k.2.1 1 60 && (inR k.2.2.1 0 2 && (if k.2.2.1 = 1 then inR k.2.2.2.1 0 23 && inR k.2.2.2.2 0 999 else (k.2.2.2.1 == 0) && (k.2.2.2.2 == 0))))
theorem y1x (a b c d e : Int) : wZ (a, b, c, d, e) = some (zR (a, b, c, d, e)) := by
 unfold wZ zR
 simp only [Zp, Option.bind_some]
 by_cases hc : c = 1
 ·subst hc
  cases inR a 0 15 <;> cases inR b 1 60 <;> cases inR 1 0 2 <;> cases inR d 0 23 <;> rfl
 ·have hc' : (c == 1) = false := by simpa using hc
  rw [hc', if_neg hc]
  cases inR a 0 15 <;> cases inR b 1 60 <;> cases inR c 0 2 <;> cases (d == 0) <;> rfl
theorem y1y (a b c d e : Int) : W3 (a, b, c, d, e) = some (zR (a, b, c, d, e)) := by
 unfold W3 zR
 simp only [YN, Option.bind_some]
 by_cases hc : c = 1
 ·subst hc
  cases inR a 0 15 <;> cases inR b 1 60 <;> cases inR 1 0 2 <;> cases inR d 0 23 <;> rfl
 ·have hc' : (c != 1) = true := by simpa using hc
  rw [hc', if_neg hc]
  cases inR a 0 15 <;> cases inR b 1 60 <;> cases inR c 0 2 <;> cases (d == 0) <;> rfl
def w5 (l : List y8) (i : Int) (a : y8) : Bool := decide (0 < i) && !wQ (l.getD (i - 1).toNat yI) a
def kc (l : List y8) : Bool := !Ym (fun _ a => !zR a) l 0 && (!Ym (w5 l) l 0 && decide ((l.length : Int) ≤ 60))
theorem y7E (l : List y8) (hl : l.length ≤ 1073741824) : wd l = some (!Ym (w5 l) l 0) := by
 unfold wd qO
 have key := y43 (step := je (fun x2 => some x2) (fun x3 => some true)) (fun i (_ : Unit) => (l, i)) (fun i (s : Unit) a => if (decide (0 < i) && !wQ (l.getD (i - 1).toNat yI) a) = true ∨ i = 0 then .error (some false) else .ok s) (fun _ => some true) yI l (by omega) (fun i _ => 1 ≤ i) ?_ ?_ 1 (by omega) () (by decide)
 ·rw [key]
  have h1 : Ym (w5 l) l 0 = Ym (w5 l) (l.drop 1) 1 := by
   cases l with
   | nil => rfl
   | cons a l => simp [Ym, w5]
  rw [h1]
  have h2 := y3i (fun i a => decide ((decide (0 < i) && !wQ (l.getD (i - 1).toNat yI) a) = true ∨ i = 0)) (fun (s : Unit) _ => s) (some false) (fun _ => some true) (l.drop 1) 1 ()
  simp only [decide_eq_true_eq] at h2
  rw [show (1 : Int).toNat = 1 from rfl, h2]
  have h3 : Ym (fun i a => decide ((decide (0 < i) && !wQ (l.getD (i - 1).toNat yI) a) = true ∨ i = 0)) (l.drop 1) 1 = Ym (w5 l) (l.drop 1) 1 := y5L _ _ fun j a hj => by
   unfold w5
   have : ¬ j = 0 := by omega
   simp [this]
  rw [h3]
  cases Ym (w5 l) (l.drop 1) 1 <;> rfl
 ·intro again i s h0 h1 hI
  have hi : 1 ≤ i := by
   have : (1 : Nat) ≤ i.toNat := hI
   omega
  have hw : Go.IntKind.wrap .i64 (i + 1) = i + 1 := w64 (by omega) (by omega)
  have hm : Go.IntKind.wrap .i64 (i - 1) = i - 1 := w64 (by omega) (by omega)
  refine ⟨?_, fun _ _ => by omega⟩
  unfold je
  obtain ⟨⟨x1, x2, x3, x4, x5⟩, hx⟩ : ∃ x, y6 l i = x := ⟨_, rfl⟩
  have hx' : l.getD i.toNat yI = (x1, x2, x3, x4, x5) := hx
  obtain ⟨⟨y1, y2, y3, y4, y5⟩, hy⟩ : ∃ y, y6 l (i - 1) = y := ⟨_, rfl⟩
  have hy' : l.getD (i - 1).toNat yI = (y1, y2, y3, y4, y5) := hy
  rw [hx', hy']
  have h3 : 0 ≤ i - 1 := by omega
  have h4 : i - 1 < (l.length : Int) := by omega
  have h5 : 0 < i := by omega
  have h6 : ¬ i = 0 := by omega
  simp only [Bool.cond_eq_ite, decide_eq_true_eq, h0, h1, if_true, hw, hm, hx, hy, h3, h4, h5, h6, QM, Option.bind_some, decide_true, Bool.true_and, or_false]
  cases wQ (y1, y2, y3, y4, y5) (x1, x2, x3, x4, x5) <;> rfl
 ·intro again i s hi
  unfold je
  simp only [Bool.cond_eq_ite, decide_eq_true_eq, if_neg hi]
theorem y7F (l : List y8) (hl : l.length ≤ 1073741824) : Kd l = some (kc l) := by
 unfold Kd y0A kc
 refine (zP (step := we _ _) (fun i => (l, i)) (fun _ a => !zR a) (some false) (some (!Ym (w5 l) l 0 && decide ((l.length : Int) ≤ 60))) yI l (by omega) ?_ ?_).trans ?_
 ·intro again i h0 h1
  have hw : Go.IntKind.wrap .i64 (i + 1) = i + 1 := w64 (by omega) (by omega)
  unfold we
  obtain ⟨⟨x1, x2, x3, x4, x5⟩, hx⟩ : ∃ x, y6 l i = x := ⟨_, rfl⟩
  have hx' : l.getD i.toNat yI = (x1, x2, x3, x4, x5) := hx
  rw [hx']
  simp only [Bool.cond_eq_ite, decide_eq_true_eq, h0, h1, if_true, hw, hx, y1x, Option.bind_some]
 ·intro again i hi
  unfold we
  simp only [Bool.cond_eq_ite, decide_eq_true_eq, if_neg hi, y7E l hl, Option.bind_some]
  cases Ym (w5 l) l 0 <;> rfl
 ·cases Ym (fun _ a => !zR a) l 0 <;> rfl
theorem y7G (l : List y8) (hl : l.length ≤ 1073741824) : Kf l = some (kc l) := by
 unfold Kf y0F kc
 refine (zP (step := wu _ _) (fun i => (l, l, (l.length : Int), i)) (fun i a => !zR a || w5 l i a) (some false) (some (decide ((l.length : Int) ≤ 60))) yI l (by omega) ?_ ?_).trans ?_
 ·intro again i h0 h1
  have hw : Go.IntKind.wrap .i64 (i + 1) = i + 1 := w64 (by omega) (by omega)
  have hm : Go.IntKind.wrap .i64 (i - 1) = i - 1 := w64 (by omega) (by omega)
  unfold wu w5
  obtain ⟨⟨x1, x2, x3, x4, x5⟩, hx⟩ : ∃ x, y6 l i = x := ⟨_, rfl⟩
  have hx' : l.getD i.toNat yI = (x1, x2, x3, x4, x5) := hx
  obtain ⟨⟨y1, y2, y3, y4, y5⟩, hy⟩ : ∃ y, y6 l (i - 1) = y := ⟨_, rfl⟩
  have hy' : l.getD (i - 1).toNat yI = (y1, y2, y3, y4, y5) := hy
  rw [hx', hy']
  simp only [Bool.cond_eq_ite, decide_eq_true_eq, h0, h1, if_true, hw, hm, hx, hy, y1y, QN, Option.bind_some]
  cases zR (x1, x2, x3, x4, x5)
  ·rfl
  ·by_cases h5 : 0 < i
   ·have h3 : 0 ≤ i - 1 := by omega
    have h4 : i - 1 < (l.length : Int) := by omega
    simp only [gt_iff_lt, h5, h3, h4, if_true, decide_true]
    cases wQ (y1, y2, y3, y4, y5) (x1, x2, x3, x4, x5) <;> rfl
   ·simp [h5]
 ·intro again i hi
  unfold wu
  simp only [Bool.cond_eq_ite, decide_eq_true_eq, if_neg hi]
 ·rw [yaM]
  cases Ym (fun _ a => !zR a) l 0 <;> cases Ym (w5 l) l 0 <;> rfl
def y1z (_ : Int) (a : y9) : Bool := !kc a || ((List.length a : Int) == 0)
def y0I (s : Int) (a : y9) : Int := Go.IntKind.wrap .i64 (s + (List.length a : Int))
def Yn (n : List y9) : Bool := !Ym y1z n 0 && (decide ((n.length : Int) ≤ 3) && decide (n.foldl y0I 0 ≤ 8))
theorem y7H (n : List y9) (hn : n.length ≤ 1073741824) : wg n = some (n.foldl y0I 0) := by
 unfold wg qP
 refine Y2 (step := jg _) (fun (i s : Int) => (s, i, n)) (fun s => some s) z6 y0I n (by omega) (fun _ _ => True) ?_ ?_ 0 trivial
 ·intro again i s h0 h1 _
  have hw : Go.IntKind.wrap .i64 (i + 1) = i + 1 := w64 (by omega) (by omega)
  refine ⟨?_, trivial⟩
  unfold jg
  simp only [Bool.cond_eq_ite, decide_eq_true_eq, h0, h1, if_true, hw]
  rfl
 ·intro again i s hi
  unfold jg
  simp only [Bool.cond_eq_ite, decide_eq_true_eq, if_neg hi]
theorem Vr (n : List y9) (hn : n.length ≤ 1073741824) (hm : ∀ s ∈ n, List.length s ≤ 1073741824) : zp n = some (Yn n) := by
 unfold zp Qh Yn
 refine (zP (step := jS _ _) (fun i => (i, n)) y1z (some false) (some (decide ((n.length : Int) ≤ 3) && decide (n.foldl y0I 0 ≤ 8))) z6 n (by omega) ?_ ?_).trans ?_
 ·intro again i h0 h1
  have hw : Go.IntKind.wrap .i64 (i + 1) = i + 1 := w64 (by omega) (by omega)
  have e := y7F (yq n i) (hm _ (ze z6 n i h0 h1))
  unfold jS y1z
  have hx : n.getD i.toNat z6 = yq n i := rfl
  rw [hx]
  simp only [Bool.cond_eq_ite, decide_eq_true_eq, h0, h1, if_true, hw, e, Option.bind_some]
  cases kc (yq n i)
  ·rfl
  ·rfl
 ·intro again i hi
  unfold jS
  simp only [Bool.cond_eq_ite, decide_eq_true_eq, if_neg hi, y7H n hn, Option.bind_some]
  by_cases h3 : (n.length : Int) ≤ 3 <;> simp [h3]
 ·cases Ym y1z n 0 <;> rfl
theorem Vs (n : List y9) (hn : n.length ≤ 1073741824) (hm : ∀ s ∈ n, List.length s ≤ 1073741824) : zE n = some (Yn n) := by
 unfold zE Qy Yn
 refine (y3j (step := Je _ _) (fun (i s : Int) => (s, n, (n.length : Int), i, n)) y1z y0I (some false) (fun s => some (decide ((n.length : Int) ≤ 3) && decide (s ≤ 8))) z6 n (by omega) ?_ ?_ 0).trans ?_
 ·intro again i s h0 h1
  have hw : Go.IntKind.wrap .i64 (i + 1) = i + 1 := w64 (by omega) (by omega)
  have e := y7G (yq n i) (hm _ (ze z6 n i h0 h1))
  unfold Je y1z y0I
  have hx : n.getD i.toNat z6 = yq n i := rfl
  rw [hx]
  simp only [Bool.cond_eq_ite, decide_eq_true_eq, h0, h1, if_true, hw, e, Option.bind_some]
  cases kc (yq n i)
  ·rfl
  ·rfl
 ·intro again i s hi
  unfold Je
  simp only [Bool.cond_eq_ite, decide_eq_true_eq, if_neg hi]
  by_cases h3 : (n.length : Int) ≤ 3 <;> simp [h3]
 ·cases Ym y1z n 0 <;> rfl
end Go.Proofs.YtjllpipmaejeoaaGreat.Pl
namespace Go.Proofs.YtjllpipmaejeoaaGreat.Pl
open Go.Proofs.YtjllpipmaejeoaaGreat.R Go.Proofs.YtjllpipmaejeoaaGreat.XU
def small (is : List yb) (ns : List y0) (ags : List ya) (cs : List y7) (vs : List ye) : Prop :=
 is.length ≤ 1048576 ∧ ns.length ≤ 1048576 ∧ WW Q2 ns ≤ 1048576 ∧ ags.length ≤ 1048576 ∧ cs.length ≤ 1048576 ∧ vs.length ≤ 1048576
theorem KU {ns : List y0} (h : WW Q2 ns ≤ 1048576) {n : List y9} (hn : n ∈ ns) : n.length ≤ 1048576 ∧ ∀ s ∈ n, List.length s ≤ 1048576 := by
 have h1 := (y0e Kh hn).1
 have h2 := wP kO n
 have h3 : Q2 n = (List.length n : Int) + WW VC n := rfl
 refine ⟨by omega, fun s hs => ?_⟩
 have h4 := (y0e kO hs).1
 have h5 : VC s = (List.length s : Int) := rfl
 omega
end Go.Proofs.YtjllpipmaejeoaaGreat.Pl
namespace Go.Proofs.YtjllpipmaejeoaaGreat.Pl
open Go.Proofs.YtjllpipmaejeoaaGreat.R Go.Proofs.YtjllpipmaejeoaaGreat.XU
def jN (a : y8) : Int := Go.IntKind.wrap .i64 (Go.IntKind.wrap .i64 ((64 : Int) * a.1) + a.2.1)
def yfC (q : List Int) (i : Int) (_ : Int) (a : y8) : Bool := decide (jN a < q.getD i.toNat 0) || (decide (i + 1 < (q.length : Int)) && decide (jN a ≥ q.getD (i + 1).toNat 0))
theorem TOk.node {t : List y0} (h : TOk t) {n : List y9} (hn : n ∈ t) : n.length ≤ 1048576 ∧ ∀ s ∈ n, List.length s ≤ 1048576 := KU h.sum hn
theorem TOk.sumK {t : List y0} (h : TOk t) {n : List y9} (hn : n ∈ t) : WW VC n ≤ 1048576 := by
 have h1 := (y0e Kh hn).1
 have h2 := y1w n
 have h3 := h.sum
 omega
theorem yd3 {R : Type} (k0 : (Int × Bool × Int × List yb × List y0 × List y9) → Option R) (k1 : (Int × Int × List yb × List y0 × List y9) → Option R) (i k : Int) (q : List Int) (t : List y0) (n : List y9) (hk0 : 0 ≤ k) (hk : k < (n.length : Int)) (hi0 : 0 ≤ i) (hi : i < (q.length : Int)) (hq : q.length ≤ 1048576) (hs : List.length (yq n k) ≤ 1048576) :
  vd k0 k1 (i, k, 0, q, t, n) = if Ym (yfC q i) (yq n k) 0 = true then k0 (i, false, k, q, t, n) else k1 (i, k, q, t, n) := by
 unfold vd
 refine zP (step := jT k0 k1) (fun j => (i, k, j, q, t, n)) (yfC q i) _ _ yI (yq n k) (by omega) ?_ ?_
 ·intro again j h0 h1
  have hw : Go.IntKind.wrap .i64 (j + 1) = j + 1 := w64 (by omega) (by omega)
  have hwi : Go.IntKind.wrap .i64 (i + 1) = i + 1 := w64 (by omega) (by omega)
  unfold jT yfC JE JD jN
  obtain ⟨⟨x1, x2, x3, x4, x5⟩, hx⟩ : ∃ x, y6 (yq n k) j = x := ⟨_, rfl⟩
  have hx' : (yq n k).getD j.toNat yI = (x1, x2, x3, x4, x5) := hx
  have e1 : q.getD i.toNat 0 = zu q i := rfl
  have e2 : q.getD (i + 1).toNat 0 = zu q (i + 1) := rfl
  rw [hx', e1, e2]
  have hi1 : 0 ≤ i + 1 := by omega
  simp only [Bool.cond_eq_ite, decide_eq_true_eq, h0, h1, hk0, hk, hi0, hi, hi1, if_true, hw, hwi, hx, Option.bind_some]
  by_cases h2 : Go.IntKind.wrap .i64 (Go.IntKind.wrap .i64 ((64 : Int) * x1) + x2) < zu q i
  ·simp [h2]
  ·by_cases h3 : i + 1 < (q.length : Int)
   ·simp [h2, h3]
   ·simp [h2, h3]
 ·intro again j hj
  unfold jT
  simp only [Bool.cond_eq_ite, decide_eq_true_eq, hk0, hk, if_true, if_neg hj]
def y9A (q : List Int) (i : Int) (_ : Int) (s : y9) : Bool := Ym (yfC q i) s 0
def y5M (n : y0) : Bool := ((yA n).length : Int) == 0
def y1A (q : List Int) (i : Int) (n : y0) : Bool := Yn n && (!(decide (0 < i) && y5M n) && !Ym (y9A q i) n 0)
theorem y50 (q : List Int) (t : List y0) (i : Int) (ht : TOk t) (hi0 : 0 ≤ i) (hi : i < (t.length : Int)) (hq : q.length = t.length) : We (q, t, i) = some (y1A q i (yf t i)) := by
 have hmem : yf t i ∈ t := ze yh t i hi0 hi
 obtain ⟨hn, hs⟩ := ht.node hmem
 have hlen := ht.len
 have hq1 : i < (q.length : Int) := by omega
 have hq2 : q.length ≤ 1048576 := by omega
 have e1 := Vr (yf t i) (by omega) (fun s hh => by have := hs s hh; omega)
 have e2 : yD (yf t i) = some (yA (yf t i)) := YW _ (by omega) (ht.sumK hmem)
 unfold We y1A y5M
 simp only [hi0, hi, if_true, e1, Option.bind_some]
 generalize yf t i = n at *
 cases Yn n
 ·rfl
 ·have key : vf (fun x10 => some x10) (fun x11 => some true) (i, 0, q, t, n) = some (!Ym (y9A q i) n 0) := by
   unfold vf
   refine (zP (step := jU _ _) (fun k => (i, k, q, t, n)) (y9A q i) (some false) (some true) z6 n (by omega) ?_ ?_).trans ?_
   ·intro again k h0 h1
    have hw : Go.IntKind.wrap .i64 (k + 1) = k + 1 := w64 (by omega) (by omega)
    have hsk : List.length (yq n k) ≤ 1048576 := hs _ (ze z6 n k h0 h1)
    unfold jU y9A
    have hx : n.getD k.toNat z6 = yq n k := rfl
    rw [hx]
    simp only [Bool.cond_eq_ite, decide_eq_true_eq, h1, if_true, yd3 _ _ i k q t n h0 h1 hi0 hq1 hq2 hsk, hw]
   ·intro again k hk
    unfold jU
    simp only [Bool.cond_eq_ite, decide_eq_true_eq, if_neg hk]
   ·cases Ym (y9A q i) n 0 <;> rfl
  simp only [key, e2, Option.bind_some, Bool.not_true, cond_false, gt_iff_lt]
  by_cases h0 : 0 < i
  ·simp only [h0, decide_true, cond_true, Bool.true_and]
   cases (((yA n).length : Int) == 0) <;> rfl
  ·simp only [h0, decide_false, cond_false, Bool.false_and]
   rfl
theorem yd4 {R : Type} (k0 : (Int × Bool × List y9 × Int × Int × List yb × List y0) → Option R) (k1 : (Int × List y9 × Int × Int × List yb × List y0) → Option R) (i k m : Int) (q : List Int) (t : List y0) (n : List y9) (s : List y8) (hi0 : 0 ≤ i) (hi : i < (q.length : Int)) (hq : q.length ≤ 1048576) (hs : s.length ≤ 1048576) :
  kJ k0 k1 (i, n, m, k, s, (s.length : Int), 0, q, t) = if Ym (yfC q i) s 0 = true then k0 (i, false, n, m, k, q, t) else k1 (i, n, m, k, q, t) := by
 unfold kJ
 refine zP (step := ZM k0 k1) (fun j => (i, n, m, k, s, (s.length : Int), j, q, t)) (yfC q i) _ _ yI s (by omega) ?_ ?_
 ·intro again j h0 h1
  have hw : Go.IntKind.wrap .i64 (j + 1) = j + 1 := w64 (by omega) (by omega)
  have hwi : Go.IntKind.wrap .i64 (i + 1) = i + 1 := w64 (by omega) (by omega)
  unfold ZM yfC Z8 jN
  obtain ⟨⟨x1, x2, x3, x4, x5⟩, hx⟩ : ∃ x, y6 s j = x := ⟨_, rfl⟩
  have hx' : s.getD j.toNat yI = (x1, x2, x3, x4, x5) := hx
  have e1 : q.getD i.toNat 0 = zu q i := rfl
  have e2 : q.getD (i + 1).toNat 0 = zu q (i + 1) := rfl
  rw [hx', e1, e2]
  have hi1 : 0 ≤ i + 1 := by omega
  simp only [Bool.cond_eq_ite, decide_eq_true_eq, h0, h1, hi0, hi, hi1, if_true, hw, hwi, hx, Option.bind_some]
  by_cases h2 : Go.IntKind.wrap .i64 (Go.IntKind.wrap .i64 ((64 : Int) * x1) + x2) < zu q i
  ·simp [h2]
  ·by_cases h3 : i + 1 < (q.length : Int)
   ·simp [h2, h3]
   ·simp [h2, h3]
 ·intro again j hj
  unfold ZM
  simp only [Bool.cond_eq_ite, decide_eq_true_eq, if_neg hj]
theorem y2S (q : List Int) (t : List y0) (i : Int) (ht : TOk t) (hi0 : 0 ≤ i) (hi : i < (t.length : Int)) (hq : q.length = t.length) : Jf (q, t, i) = some (!Ym (y9A q i) (yf t i) 0) := by
 have hmem : yf t i ∈ t := ze yh t i hi0 hi
 obtain ⟨hn, hs⟩ := ht.node hmem
 have hlen := ht.len
 have hq1 : i < (q.length : Int) := by omega
 have hq2 : q.length ≤ 1048576 := by omega
 unfold Jf VT
 simp only [hi0, hi, if_true]
 generalize yf t i = n at *
 refine (zP (step := ZN _ _) (fun k => (i, n, (n.length : Int), k, q, t)) (y9A q i) (some false) (some true) z6 n (by omega) ?_ ?_).trans ?_
 ·intro again k h0 h1
  have hw : Go.IntKind.wrap .i64 (k + 1) = k + 1 := w64 (by omega) (by omega)
  have hsk : List.length (yq n k) ≤ 1048576 := hs _ (ze z6 n k h0 h1)
  unfold ZN y9A
  have hx : n.getD k.toNat z6 = yq n k := rfl
  rw [hx]
  simp only [Bool.cond_eq_ite, decide_eq_true_eq, h0, h1, if_true, yd4 _ _ i k (n.length : Int) q t n _ hi0 hq1 hq2 hsk, hw]
 ·intro again k hk
  unfold ZN
  simp only [Bool.cond_eq_ite, decide_eq_true_eq, if_neg hk]
 ·cases Ym (y9A q i) n 0 <;> rfl
def yd5 (q : List Int) (i : Int) : Bool := decide (0 < i) && decide (q.getD (i - 1).toNat 0 ≥ q.getD i.toNat 0)
def KC (q : List Int) (i : Int) (n : y0) : Bool := yd5 q i || !y1A q i n
def y45 (s : Int) (n : y0) : Int := Go.IntKind.wrap .i64 (s + ((yA n).length : Int))
def z7 (q : List Int) (t : List y0) : Bool :=
 inR (t.length : Int) 1 20 && (decide (q.length = t.length) && ((q.getD 0 0 == 0) && (!Ym (KC q) t 0 && decide (((yn t).length : Int) ≤ 60))))
theorem yf1 : ∀ (t : List y0) (s : List y8), (s.length : Int) + WW Q2 t ≤ 1048576 → t.foldl y45 (s.length : Int) = ((t.foldl WX s).length : Int)
 | [], _, _ => rfl
 | n :: t, s, h => by
  rw [Y7] at h
  have h1 := Ki n
  have h2 := y1w n
  have h3 := wP Kh t
  have h4 : (WX s n).length = s.length + (yA n).length := List.length_append
  rw [List.foldl_cons, List.foldl_cons, show y45 (s.length : Int) n = ((WX s n).length : Int) by
   unfold y45
   rw [h4, w64 (by omega) (by omega)]
   omega]
  exact yf1 t (WX s n) (by rw [h4]; omega)
theorem Vt (q : List Int) (t : List y0) (ht : TOk t) : Yg (q, t) = some (z7 q t) := by
 have hlen := ht.len
 unfold Yg z7
 simp only [Zp, Option.bind_some]
 cases h1 : inR (t.length : Int) 1 20
 ·rfl
 by_cases hq : q.length = t.length
 ·have hq' : ((q.length : Int) != (t.length : Int)) = false := by simp [hq]
  have hpos : 0 < (q.length : Int) := by
   have := (zl.1 h1).1
   omega
  have hd : decide (q.length = t.length) = true := by simp [hq]
  simp only [hq', hd, Bool.not_true, cond_false, cond_true, Option.bind_some, Bool.true_and]
  rw [if_pos (Int.le_refl _), if_pos (by omega)]
  have e0 : zu q 0 = q.getD 0 0 := rfl
  rw [e0]
  try simp only [Option.bind_some]
  by_cases hz : q.getD 0 0 = 0
  ·have hz1 : (q.getD 0 0 != 0) = false := by rw [hz]; rfl
   have hz2 : (q.getD 0 0 == 0) = true := by rw [hz]; rfl
   rw [hz1, hz2]
   simp only [cond_false, Bool.true_and]
   unfold Qi
   refine (zP (step := jV _ _) (fun i => (i, q, t)) (KC q) (some false) (some (decide (((yn t).length : Int) ≤ 60))) yh t (by omega) ?_ ?_).trans ?_
   ·intro again i h0 h1
    have hw : Go.IntKind.wrap .i64 (i + 1) = i + 1 := w64 (by omega) (by omega)
    have hm : Go.IntKind.wrap .i64 (i - 1) = i - 1 := w64 (by omega) (by omega)
    have e := y50 q t i ht h0 h1 hq
    unfold jV KC yd5
    have hx : t.getD i.toNat yh = yf t i := rfl
    have e1 : q.getD i.toNat 0 = zu q i := rfl
    have e2 : q.getD (i - 1).toNat 0 = zu q (i - 1) := rfl
    rw [hx, e1, e2]
    simp only [Bool.cond_eq_ite, decide_eq_true_eq, h0, h1, if_true, hw, hm, e, gt_iff_lt]
    by_cases h5 : 0 < i
    ·rw [if_pos h5, if_pos (by omega), if_pos (by omega), if_pos (by omega)]
     simp only [h5, decide_true, Option.bind_some, Bool.true_and]
     cases decide (zu q (i - 1) ≥ zu q i) <;> cases y1A q i (yf t i) <;> rfl
    ·rw [if_neg h5]
     simp only [h5, decide_false, Option.bind_some, Bool.false_and]
     cases y1A q i (yf t i) <;> rfl
   ·intro again i hi
    have e : yM (q, t) = some (yn t) := Ys q t (by omega) ht.nodes ht.sum
    unfold jV
    simp only [Bool.cond_eq_ite, decide_eq_true_eq, if_neg hi, e, Option.bind_some]
   ·cases Ym (KC q) t 0 <;> rfl
  ·have hz1 : (q.getD 0 0 != 0) = true := by simpa using hz
   have hz2 : (q.getD 0 0 == 0) = false := by simpa using hz
   rw [hz1, hz2]
   rfl
 ·have hq' : ((q.length : Int) != (t.length : Int)) = true := by
   simp only [bne_iff_ne, ne_eq]
   omega
  have hd : decide (q.length = t.length) = false := by simp [hq]
  simp only [hq', hd, Bool.not_true, cond_false, cond_true, Option.bind_some, Bool.false_and, Bool.and_false]
theorem Vu (q : List Int) (t : List y0) (ht : TOk t) : Yh (q, t) = some (z7 q t) := by
 have hlen := ht.len
 unfold Yh z7
 simp only [YN, Option.bind_some]
 cases h1 : inR (t.length : Int) 1 20
 ·rfl
 by_cases hq : q.length = t.length
 ·have hq' : ((q.length : Int) != (t.length : Int)) = false := by simp [hq]
  have hpos : 0 < (q.length : Int) := by
   have := (zl.1 h1).1
   omega
  have hd : decide (q.length = t.length) = true := by simp [hq]
  simp only [hq', hd, Bool.not_true, cond_false, cond_true, Option.bind_some, Bool.true_and]
  rw [if_pos (Int.le_refl _), if_pos (by omega)]
  have e0 : zu q 0 = q.getD 0 0 := rfl
  rw [e0]
  try simp only [Option.bind_some]
  by_cases hz : q.getD 0 0 = 0
  ·have hz1 : (q.getD 0 0 != 0) = false := by rw [hz]; rfl
   have hz2 : (q.getD 0 0 == 0) = true := by rw [hz]; rfl
   rw [hz1, hz2]
   simp only [cond_false, Bool.true_and]
   unfold Qz
   refine (y3j (step := Jg _ _) (fun (i s : Int) => (s, t, (t.length : Int), i, q, t)) (KC q) y45 (some false) (fun s => some (decide (s ≤ 60))) yh t (by omega) ?_ ?_ 0).trans ?_
   ·intro again i s h0 h1
    have hmem : yf t i ∈ t := ze yh t i h0 h1
    obtain ⟨hn, hss⟩ := ht.node hmem
    have hw : Go.IntKind.wrap .i64 (i + 1) = i + 1 := w64 (by omega) (by omega)
    have hm : Go.IntKind.wrap .i64 (i - 1) = i - 1 := w64 (by omega) (by omega)
    have e3 := Vs (yf t i) (by omega) (fun s hh => by have := hss s hh; omega)
    have e4 := y2S q t i ht h0 h1 hq
    have e5 : yN (yf t i) = some (yA (yf t i)) := ju _ (by omega) (ht.sumK hmem)
    unfold Jg KC yd5 y1A y5M y45
    have hx : t.getD i.toNat yh = yf t i := rfl
    have e1 : q.getD i.toNat 0 = zu q i := rfl
    have e2 : q.getD (i - 1).toNat 0 = zu q (i - 1) := rfl
    rw [hx, e1, e2]
    simp only [Bool.cond_eq_ite, decide_eq_true_eq, h0, h1, if_true, hw, hm, e3, e4, e5, gt_iff_lt, Option.bind_some]
    by_cases h5 : 0 < i
    ·rw [if_pos h5, if_pos (by omega), if_pos (by omega), if_pos (by omega)]
     simp only [h5, decide_true, Option.bind_some, Bool.true_and, if_true]
     cases decide (zu q (i - 1) ≥ zu q i) <;> cases Yn (yf t i) <;> cases Ym (y9A q i) (yf t i) 0 <;> cases (((yA (yf t i)).length : Int) == 0) <;> rfl
    ·rw [if_neg h5]
     simp only [h5, decide_false, Option.bind_some, Bool.false_and, if_false]
     cases Yn (yf t i) <;> cases Ym (y9A q i) (yf t i) 0 <;> rfl
   ·intro again i s hi
    unfold Jg
    simp only [Bool.cond_eq_ite, decide_eq_true_eq, if_neg hi]
   ·have := yf1 t [] (by have := ht.sum; simpa using this)
    simp only [List.length_nil] at this
    rw [show ((0 : Nat) : Int) = 0 from rfl] at this
    rw [this]
    unfold yn
    cases Ym (KC q) t 0 <;> rfl
  ·have hz1 : (q.getD 0 0 != 0) = true := by simpa using hz
   have hz2 : (q.getD 0 0 == 0) = false := by simpa using hz
   rw [hz1, hz2]
   rfl
 ·have hq' : ((q.length : Int) != (t.length : Int)) = true := by
   simp only [bne_iff_ne, ne_eq]
   omega
  have hd : decide (q.length = t.length) = false := by simp [hq]
  simp only [hq', hd, Bool.not_true, cond_false, cond_true, Option.bind_some, Bool.false_and, Bool.and_false]
end Go.Proofs.YtjllpipmaejeoaaGreat.Pl
namespace Go.Proofs.YtjllpipmaejeoaaGreat.Pl
open Go.Proofs.YtjllpipmaejeoaaGreat.R Go.Proofs.YtjllpipmaejeoaaGreat.XU
def isW (n : Int) : Bool := inR n 0 65535
theorem q9 (x : Int) : zo x = some (isW x) := by unfold zo; rw [Zp]; rfl
theorem y8S (x : Int) : JN x = some (isW x) := by unfold JN; rw [YN]; rfl
def y7I (c : Int) : Bool := inR c 97 122 || inR c 48 57
def qA (l : List UInt8) : Bool := l.all fun c => y7I (c.toNat : Int)
def jv (s : ByteArray) : Bool := qA s.data.toList && inR s.size 1 6
theorem ybL (c : UInt8) : Go.IntKind.wrap .i64 (c.toNat : Int) = c.toNat := by
 have := c.toNat_lt
 exact w64 (by omega) (by omega)
theorem ygQ (s : ByteArray) (i : Nat) (h : i < s.size) : ByteArray.get s i h = s.data.toList[i]'(by rw [Array.length_toList]; exact h) := by
 rw [Array.getElem_toList]
 rfl
theorem y8T (s : ByteArray) (i : Nat) (h : i < s.size) : s.data.toList.drop i = ByteArray.get s i h :: s.data.toList.drop (i + 1) := by
 rw [ygQ, ← List.drop_eq_getElem_cons]
theorem wD (s : ByteArray) (hs : s.size ≤ maxLen) : Yf s = some (jv s) := by
 have hm : (s.size : Int) ≤ 9223372036854775807 := by simp only [maxLen] at hs; omega
 unfold Yf Qg
 rw [YM (fun t : ByteArray × Int => t.1.size - t.2.toNat) (fun t => t.1 = s ∧ 0 ≤ t.2 ∧ t.2 ≤ s.size) (fun t => if qA (t.1.data.toList.drop t.2.toNat) then some (inR s.size 1 6) else some false) ?_ (s, 0) ⟨rfl, by simp, by simp⟩ (by simp only [maxLen] at hs; simp; omega)]
 ·unfold jv
  cases h : qA s.data.toList <;> simp [h]
 ·rintro again ⟨s', i⟩ ⟨rfl, h0, h1⟩ hag
  simp only at h0 h1 hs hm ⊢
  unfold v8
  simp only [Bool.cond_eq_ite, decide_eq_true_eq]
  by_cases hi : i < (s'.size : Int)
  ·have hn : i.toNat < s'.size := by omega
   rw [if_pos hi, if_pos h0, dif_pos hn]
   simp only [Zp, Option.bind_some, if_pos h0, dif_pos hn, ybL]
   rw [y8T s' i.toNat hn]
   have hw : Go.IntKind.wrap .i64 (i + 1) = i + 1 := w64 (by omega) (by omega)
   have e1 : (i + 1).toNat = i.toNat + 1 := by omega
   have hag' := hag (s', i + 1) ⟨rfl, by simp only; omega, by simp only; omega⟩ (by simp only; omega)
   simp only [qA, List.all_cons, y7I] at hag' ⊢
   rw [hw, hag', e1]
   obtain ⟨c, hc⟩ : ∃ c, ByteArray.get s' i.toNat hn = c := ⟨_, rfl⟩
   simp only [hc]
   cases inR (c.toNat : Int) 97 122 <;> cases inR (c.toNat : Int) 48 57 <;> simp
  ·rw [if_neg hi, List.drop_of_length_le (by rw [Array.length_toList]; show s'.size ≤ _; omega)]
   simp [qA, Zp]
theorem y51 (s : ByteArray) (hs : s.size ≤ maxLen) : WH s = some (jv s) := by
 have hm : (s.size : Int) ≤ 9223372036854775807 := by simp only [maxLen] at hs; omega
 unfold WH QC
 rw [YM (fun t : ByteArray × Int => t.1.size - t.2.toNat) (fun t => t.1 = s ∧ 0 ≤ t.2 ∧ t.2 ≤ s.size) (fun t => if qA (t.1.data.toList.drop t.2.toNat) then some (inR s.size 1 6) else some false) ?_ (s, 0) ⟨rfl, by simp, by simp⟩ (by simp only [maxLen] at hs; simp; omega)]
 ·unfold jv
  cases h : qA s.data.toList <;> simp [h]
 ·rintro again ⟨s', i⟩ ⟨rfl, h0, h1⟩ hag
  simp only at h0 h1 hs hm ⊢
  unfold vF
  simp only [Bool.cond_eq_ite, decide_eq_true_eq]
  by_cases hi : i < (s'.size : Int)
  ·have hn : i.toNat < s'.size := by omega
   rw [if_pos hi, if_pos h0, dif_pos hn]
   simp only [YN, Option.bind_some, if_pos h0, dif_pos hn, ybL]
   rw [y8T s' i.toNat hn]
   have hw : Go.IntKind.wrap .i64 (i + 1) = i + 1 := w64 (by omega) (by omega)
   have e1 : (i + 1).toNat = i.toNat + 1 := by omega
   have hag' := hag (s', i + 1) ⟨rfl, by simp only; omega, by simp only; omega⟩ (by simp only; omega)
   simp only [qA, List.all_cons, y7I] at hag' ⊢
   rw [hw, hag', e1]
   obtain ⟨c, hc⟩ : ∃ c, ByteArray.get s' i.toNat hn = c := ⟨_, rfl⟩
   simp only [hc]
   cases inR (c.toNat : Int) 97 122 <;> cases inR (c.toNat : Int) 48 57 <;> simp
  ·rw [if_neg hi, List.drop_of_length_le (by rw [Array.length_toList]; show s'.size ≤ _; omega)]
   simp [qA, YN]
end Go.Proofs.YtjllpipmaejeoaaGreat.Pl
namespace Go.Proofs.YtjllpipmaejeoaaGreat.Pl
open Go.Proofs.YtjllpipmaejeoaaGreat.R Go.Proofs.YtjllpipmaejeoaaGreat.XU
def yd6 (l : List ya) (i : Int) : List ya := List.drop (Int.toNat (0 : Int)) (List.take (Int.toNat i) l)
def y2T (l : List ya) (i : Int) (a : ya) : Bool := !inR a.1 1 60 || ((decide (0 < i) && decide ((l.getD (i - 1).toNat zA).1 ≥ a.1)) || (a.2 != 0 && decide (zJ (yd6 l i) a.2 < 0)))
def jF (l : List ya) : Bool := !Ym (y2T l) l 0 && decide ((l.length : Int) ≤ 16)
theorem ybM (l : List ya) (i : Int) : (yd6 l i).length ≤ l.length := by
 unfold yd6
 simp only [List.length_drop, List.length_take]
 omega
theorem K4 (l : List ya) (hl : l.length ≤ 1048576) : YZ l = some (jF l) := by
 unfold YZ Qj jF
 refine (zP (step := jW _ _) (fun i => (l, i)) (y2T l) (some false) (some (decide ((l.length : Int) ≤ 16))) zA l (by omega) ?_ ?_).trans ?_
 ·intro again i h0 h1
  have hw : Go.IntKind.wrap .i64 (i + 1) = i + 1 := w64 (by omega) (by omega)
  have hm : Go.IntKind.wrap .i64 (i - 1) = i - 1 := w64 (by omega) (by omega)
  unfold jW y2T
  obtain ⟨⟨x1, x2⟩, hx⟩ : ∃ x, yO l i = x := ⟨_, rfl⟩
  have hx' : l.getD i.toNat zA = (x1, x2) := hx
  have hy : l.getD (i - 1).toNat zA = yO l (i - 1) := rfl
  have e : zK (List.drop (Int.toNat (0 : Int)) (List.take (Int.toNat i) l), x2) = some (zJ (yd6 l i) x2) := Zf (yd6 l i) x2 (by have := ybM l i; omega)
  rw [hx', hy]
  have h2 : i ≤ (l.length : Int) := by omega
  simp only [Bool.cond_eq_ite, decide_eq_true_eq, h0, h1, h2, if_true, hw, hm, hx, Zp, e, Option.bind_some, Int.le_refl, gt_iff_lt]
  cases inR x1 1 60
  ·rfl
  ·by_cases h5 : 0 < i
   ·have h3 : 0 ≤ i - 1 := by omega
    have h4 : i - 1 < (l.length : Int) := by omega
    simp only [h5, h3, h4, if_true, decide_true]
    cases decide ((yO l (i - 1)).1 ≥ x1) <;> cases (x2 != 0) <;> cases decide (zJ (yd6 l i) x2 < 0) <;> rfl
   ·simp only [h5, if_false, decide_false]
    cases (x2 != 0) <;> cases decide (zJ (yd6 l i) x2 < 0) <;> rfl
 ·intro again i hi
  unfold jW
  simp only [Bool.cond_eq_ite, decide_eq_true_eq, if_neg hi]
 ·cases Ym (y2T l) l 0 <;> rfl
theorem y52 (l : List ya) (hl : l.length ≤ 1048576) : WF l = some (jF l) := by
 unfold WF QA jF
 refine (zP (step := Jh _ _) (fun i => (l, l, (l.length : Int), i)) (y2T l) (some false) (some (decide ((l.length : Int) ≤ 16))) zA l (by omega) ?_ ?_).trans ?_
 ·intro again i h0 h1
  have hw : Go.IntKind.wrap .i64 (i + 1) = i + 1 := w64 (by omega) (by omega)
  have hm : Go.IntKind.wrap .i64 (i - 1) = i - 1 := w64 (by omega) (by omega)
  unfold Jh y2T
  obtain ⟨⟨x1, x2⟩, hx⟩ : ∃ x, yO l i = x := ⟨_, rfl⟩
  have hx' : l.getD i.toNat zA = (x1, x2) := hx
  have hy : l.getD (i - 1).toNat zA = yO l (i - 1) := rfl
  have e : Z9 (List.drop (Int.toNat (0 : Int)) (List.take (Int.toNat i) l), x2) = some (zJ (yd6 l i) x2) := KR (yd6 l i) x2 (by have := ybM l i; omega)
  rw [hx', hy]
  have h2 : i ≤ (l.length : Int) := by omega
  simp only [Bool.cond_eq_ite, decide_eq_true_eq, h0, h1, h2, if_true, hw, hm, hx, YN, e, Option.bind_some, Int.le_refl, gt_iff_lt]
  cases inR x1 1 60
  ·rfl
  ·by_cases h5 : 0 < i
   ·have h3 : 0 ≤ i - 1 := by omega
    have h4 : i - 1 < (l.length : Int) := by omega
    simp only [h5, h3, h4, if_true, decide_true]
    cases decide ((yO l (i - 1)).1 ≥ x1) <;> cases (x2 != 0) <;> cases decide (zJ (yd6 l i) x2 < 0) <;> rfl
   ·simp only [h5, if_false, decide_false]
    cases (x2 != 0) <;> cases decide (zJ (yd6 l i) x2 < 0) <;> rfl
 ·intro again i hi
  unfold Jh
  simp only [Bool.cond_eq_ite, decide_eq_true_eq, if_neg hi]
 ·cases Ym (y2T l) l 0 <;> rfl
def qa (id : Int) (s : List Int) (a : ya) : List Int := if (a.2 == id && id != 0) = true then s ++ [a.1] else s
def Y8 (l : List ya) (id : Int) : List Int := l.foldl (qa id) []
theorem y5N (id : Int) (s : List Int) (a : ya) : (qa id s a).length ≤ s.length + 1 := by
 unfold qa
 split <;> simp
theorem K5 (l : List ya) (id : Int) (hl : l.length ≤ 1048576) : j7 (l, id) = some (Y8 l id) := by
 unfold j7 Qk Y8
 refine Y2 (step := jX _) (fun (i : Int) (s : List Int) => (l, id, i, s)) (fun s => some s) zA (qa id) l (by omega) (fun i s => s.length ≤ i) ?_ ?_ [] (by simp)
 ·intro again i s h0 h1 hI
  have hw : Go.IntKind.wrap .i64 (i + 1) = i + 1 := w64 (by omega) (by omega)
  have hs := y5N id s (l.getD i.toNat zA)
  refine ⟨?_, by omega⟩
  have c1 : (s.length + 1) * 8 < 140737488355328 := by omega
  clear hs
  unfold jX qa
  obtain ⟨⟨x1, x2⟩, hx⟩ : ∃ x, yO l i = x := ⟨_, rfl⟩
  have hx' : l.getD i.toNat zA = (x1, x2) := hx
  rw [hx']
  simp only [Bool.cond_eq_ite, decide_eq_true_eq, h0, h1, if_true, hw, hx, List.length_cons, List.length_nil, Nat.zero_add, c1]
  cases (x2 == id) <;> cases (id != 0) <;> rfl
 ·intro again i s hi
  unfold jX
  simp only [Bool.cond_eq_ite, decide_eq_true_eq, if_neg hi]
theorem yf2 (l : List ya) : Y8 l 0 = [] := by
 have : ∀ (l : List ya) (s : List Int), l.foldl (qa 0) s = s := by
  intro l
  induction l with
  | nil => intro s; rfl
  | cons a l ih =>
   intro s
   rw [List.foldl_cons, ih]
   unfold qa
   simp
 exact this l []
theorem y53 (l : List ya) (id : Int) (hl : l.length ≤ 1048576) : WG (l, id) = some (Y8 l id) := by
 unfold WG
 by_cases hid : id = 0
 ·subst hid
  rw [yf2]
  rfl
 ·have hid1 : (id == 0) = false := by simpa using hid
  have hid2 : (id != 0) = true := by simpa using hid
  simp only [hid1, cond_false]
  unfold QB Y8
  refine Y2 (step := Ji _) (fun (i : Int) (s : List Int) => (id, l, (l.length : Int), i, s)) (fun s => some s) zA (qa id) l (by omega) (fun i s => s.length ≤ i) ?_ ?_ [] (by simp)
  ·intro again i s h0 h1 hI
   have hw : Go.IntKind.wrap .i64 (i + 1) = i + 1 := w64 (by omega) (by omega)
   have hs := y5N id s (l.getD i.toNat zA)
   refine ⟨?_, by omega⟩
   have c1 : (s.length + 1) * 8 < 140737488355328 := by omega
   clear hs
   unfold Ji qa
   obtain ⟨⟨x1, x2⟩, hx⟩ : ∃ x, yO l i = x := ⟨_, rfl⟩
   have hx' : l.getD i.toNat zA = (x1, x2) := hx
   rw [hx']
   simp only [Bool.cond_eq_ite, decide_eq_true_eq, h0, h1, if_true, hw, hx, List.length_cons, List.length_nil, Nat.zero_add, c1, hid2]
   cases (x2 == id) <;> rfl
  ·intro again i s hi
   unfold Ji
   simp only [Bool.cond_eq_ite, decide_eq_true_eq, if_neg hi]
def y54 (_ : Int) (a : y7) : Bool := !inR a.1 0 999 || (!isW a.2.2 || (!a.2.1 && a.2.2 != 0))
def yZ (l : List y7) : Bool := !Ym y54 l 0 && ((l.length : Int) == 24)
theorem Jt (l : List y7) (hl : l.length ≤ 1048576) : Zk l = some (yZ l) := by
 unfold Zk qQ yZ
 refine (zP (step := jh _ _) (fun i => (l, i)) y54 (some false) (some ((l.length : Int) == 24)) yo l (by omega) ?_ ?_).trans ?_
 ·intro again i h0 h1
  have hw : Go.IntKind.wrap .i64 (i + 1) = i + 1 := w64 (by omega) (by omega)
  unfold jh y54
  obtain ⟨⟨x1, x2, x3⟩, hx⟩ : ∃ x, ym l i = x := ⟨_, rfl⟩
  have hx' : l.getD i.toNat yo = (x1, x2, x3) := hx
  rw [hx']
  simp only [Bool.cond_eq_ite, decide_eq_true_eq, h0, h1, if_true, hw, hx, Zp, q9, Option.bind_some]
  cases inR x1 0 999 <;> cases isW x3 <;> cases x2 <;> cases (x3 != 0) <;> rfl
 ·intro again i hi
  unfold jh
  simp only [Bool.cond_eq_ite, decide_eq_true_eq, if_neg hi]
 ·cases Ym y54 l 0 <;> rfl
theorem vR (l : List y7) (hl : l.length ≤ 1048576) : Zn l = some (yZ l) := by
 unfold Zn qV yZ
 refine (zP (step := jq _ _) (fun i => (l, l, (l.length : Int), i)) y54 (some false) (some ((l.length : Int) == 24)) yo l (by omega) ?_ ?_).trans ?_
 ·intro again i h0 h1
  have hw : Go.IntKind.wrap .i64 (i + 1) = i + 1 := w64 (by omega) (by omega)
  unfold jq y54
  obtain ⟨⟨x1, x2, x3⟩, hx⟩ : ∃ x, ym l i = x := ⟨_, rfl⟩
  have hx' : l.getD i.toNat yo = (x1, x2, x3) := hx
  rw [hx']
  simp only [Bool.cond_eq_ite, decide_eq_true_eq, h0, h1, if_true, hw, hx, YN, y8S, Option.bind_some]
  cases inR x1 0 999 <;> cases isW x3 <;> cases x2 <;> cases (x3 != 0) <;> rfl
 ·intro again i hi
  unfold jq
  simp only [Bool.cond_eq_ite, decide_eq_true_eq, if_neg hi]
 ·cases Ym y54 l 0 <;> rfl
def qB (s : Int) (a : y7) : Int := if a.2.1 = true then Go.IntKind.wrap .i64 (s + 1) else s
def vZ (l : List y7) : Int := l.foldl qB 0
theorem y8U (l : List y7) (hl : l.length ≤ 1048576) : jk l = some (vZ l) := by
 unfold jk V9 vZ
 refine Y2 (step := Z0 _) (fun (i s : Int) => (l, s, i)) (fun s => some s) yo qB l (by omega) (fun _ _ => True) ?_ ?_ 0 trivial
 ·intro again i s h0 h1 _
  have hw : Go.IntKind.wrap .i64 (i + 1) = i + 1 := w64 (by omega) (by omega)
  refine ⟨?_, trivial⟩
  unfold Z0 qB
  obtain ⟨⟨x1, x2, x3⟩, hx⟩ : ∃ x, ym l i = x := ⟨_, rfl⟩
  have hx' : l.getD i.toNat yo = (x1, x2, x3) := hx
  rw [hx']
  simp only [Bool.cond_eq_ite, decide_eq_true_eq, h0, h1, if_true, hw, hx]
  cases x2 <;> rfl
 ·intro again i s hi
  unfold Z0
  simp only [Bool.cond_eq_ite, decide_eq_true_eq, if_neg hi]
theorem QQ (l : List y7) (hl : l.length ≤ 1048576) : zx l = some (vZ l) := by
 unfold zx Vf vZ
 refine Y2 (step := Za _) (fun (i s : Int) => (s, l, (l.length : Int), i)) (fun s => some s) yo qB l (by omega) (fun _ _ => True) ?_ ?_ 0 trivial
 ·intro again i s h0 h1 _
  have hw : Go.IntKind.wrap .i64 (i + 1) = i + 1 := w64 (by omega) (by omega)
  refine ⟨?_, trivial⟩
  unfold Za qB
  obtain ⟨⟨x1, x2, x3⟩, hx⟩ : ∃ x, ym l i = x := ⟨_, rfl⟩
  have hx' : l.getD i.toNat yo = (x1, x2, x3) := hx
  rw [hx']
  simp only [Bool.cond_eq_ite, decide_eq_true_eq, h0, h1, if_true, hw, hx]
  cases x2 <;> rfl
 ·intro again i s hi
  unfold Za
  simp only [Bool.cond_eq_ite, decide_eq_true_eq, if_neg hi]
def Yo (l : List y7) (i gen : Int) : Int × Bool :=
 if inR i 0 ((l.length : Int) - 1) && ((l.getD i.toNat yo).2.1 && ((l.getD i.toNat yo).1 == gen)) then ((l.getD i.toNat yo).2.2, true) else (0, false)
theorem y0J (l : List y7) (i gen : Int) (hl : l.length ≤ 1048576) : JF (l, i, gen) = some (Yo l i gen) := by
 unfold JF Yo
 have hm : Go.IntKind.wrap .i64 ((l.length : Int) - 1) = (l.length : Int) - 1 := w64 (by omega) (by omega)
 obtain ⟨⟨x1, x2, x3⟩, hx⟩ : ∃ x, ym l i = x := ⟨_, rfl⟩
 have hx' : l.getD i.toNat yo = (x1, x2, x3) := hx
 rw [hx']
 simp only [hm, hx, Zp, Option.bind_some]
 by_cases hr : inR i 0 ((l.length : Int) - 1) = true
 ·obtain ⟨h0, h1⟩ := zl.1 hr
  rw [hr, if_pos h0, if_pos (by omega), if_pos h0, if_pos (by omega), if_pos h0, if_pos (by omega)]
  by_cases hg : x1 = gen
  ·have g1 : (x1 != gen) = false := by simp [hg]
   have g2 : (x1 == gen) = true := by simp [hg]
   rw [g1, g2]
   cases x2 <;> rfl
  ·have g1 : (x1 != gen) = true := by simpa using hg
   have g2 : (x1 == gen) = false := by simpa using hg
   rw [g1, g2]
   cases x2 <;> rfl
 ·have : inR i 0 ((l.length : Int) - 1) = false := by simpa using hr
  rw [this]
  rfl
theorem y0K (l : List y7) (i gen : Int) (hl : l.length ≤ 1048576) : JO (l, i, gen) = some (Yo l i gen) := by
 rw [← y0J l i gen hl]
 unfold JO JF
 simp only [YN, Zp]
end Go.Proofs.YtjllpipmaejeoaaGreat.Pl
namespace Go.Proofs.YtjllpipmaejeoaaGreat.Pl
open Go.Proofs.YtjllpipmaejeoaaGreat.R Go.Proofs.YtjllpipmaejeoaaGreat.XU
theorem ybN {A : Type} (p : A → Bool) : ∀ (l : List A) (i j : Int), 0 ≤ i → decide (0 ≤ zQ p l i) = Ym (fun _ a => p a) l j
 | [], i, j, _ => rfl
 | a :: l, i, j, h => by
  rw [zQ, Ym, ← ybN p l (i + 1) (j + 1) (by omega)]
  cases p a with
  | true => simp [h]
  | false => rfl
theorem y8V {A : Type} (da : A) (l : List A) (i j : Int) (h0 : 0 ≤ j) (h : j < i) : (l.take i.toNat).getD j.toNat da = l.getD j.toNat da := by
 rw [List.getD_eq_getElem?_getD, List.getD_eq_getElem?_getD, List.getElem?_take, if_pos (by omega)]
theorem ybO {A : Type} (l : List A) (i : Int) (h0 : 0 ≤ i) (h : i ≤ (l.length : Int)) : ((l.take i.toNat).length : Int) = i := by
 rw [List.length_take]
 omega
def wS (age : Int) (_ : Int) (u : ye) : Bool := u.2.1 == age
def ydx (vs : List ye) (l : List ya) (i : Int) (v : ye) : Bool :=
 !jv v.1 || (!inR v.2.2.1 1 12 || (decide (zJ l v.2.1 < 0) || (decide (((Y8 l v.2.1).length : Int) > 0) || ((decide (0 < i) && !Go.Op.bytesLess (ByteArray.toList (vs.getD (i - 1).toNat Yu).1) (ByteArray.toList v.1)) || Ym (wS v.2.1) (vs.take i.toNat) 0))))
def w6 (vs : List ye) (l : List ya) : Bool := !Ym (ydx vs l) vs 0 && decide ((vs.length : Int) ≤ 6)
theorem y46 {R : Type} (k0 : (Bool × Int × List yb × List y0 × List ya × List y7 × List ye × Int) → Option R) (k1 : (Int × List yb × List y0 × List ya × List y7 × List ye × Int) → Option R) (i : Int) (q : List Int) (t : List y0) (l : List ya) (cs : List y7) (vs : List ye) (z : Int) (v1 : ByteArray) (v2 v3 : Int) (v4 : Bool) (h0 : 0 ≤ i) (h1 : i ≤ (vs.length : Int)) (hv : vs.length ≤ 1048576) :
  Kv k0 k1 (i, 0, q, t, l, cs, vs, z, v1, v2, v3, v4) = if Ym (wS v2) (vs.take i.toNat) 0 = true then k0 (false, i, q, t, l, cs, vs, z) else k1 (i, q, t, l, cs, vs, z) := by
 unfold Kv
 have hlen := ybO vs i h0 h1
 refine zP (step := ji k0 k1) (fun k => (i, k, q, t, l, cs, vs, z, v1, v2, v3, v4)) (wS v2) _ _ Yu (vs.take i.toNat) (by omega) ?_ ?_
 ·intro again k hk0 hk1
  rw [hlen] at hk1
  have hw : Go.IntKind.wrap .i64 (k + 1) = k + 1 := w64 (by omega) (by omega)
  have hk2 : k < (vs.length : Int) := by omega
  unfold ji wS
  rw [y8V Yu vs i k hk0 hk1]
  have hx : vs.getD k.toNat Yu = yj vs k := rfl
  rw [hx]
  simp only [Bool.cond_eq_ite, decide_eq_true_eq, hk0, hk1, hk2, if_true, hw]
 ·intro again k hk
  rw [hlen] at hk
  unfold ji
  simp only [Bool.cond_eq_ite, decide_eq_true_eq, if_neg hk]
theorem y8W (q : List Int) (t : List y0) (l : List ya) (cs : List y7) (vs : List ye) (z : Int) (hl : l.length ≤ 1048576) (hv : vs.length ≤ 1048576) (hvn : ∀ v ∈ vs, ByteArray.size v.1 ≤ maxLen) : wi (q, t, l, cs, vs, z) = some (w6 vs l) := by
 unfold wi qR w6
 refine (zP (step := jj _ _) (fun i => (i, q, t, l, cs, vs, z)) (ydx vs l) (some false) (some (decide ((vs.length : Int) ≤ 6))) Yu vs (by omega) ?_ ?_).trans ?_
 ·intro again i h0 h1
  have hw : Go.IntKind.wrap .i64 (i + 1) = i + 1 := w64 (by omega) (by omega)
  have hm : Go.IntKind.wrap .i64 (i - 1) = i - 1 := w64 (by omega) (by omega)
  have hmem := hvn _ (ze Yu vs i h0 h1)
  unfold jj ydx
  obtain ⟨⟨x1, x2, x3, x4⟩, hx⟩ : ∃ x, yj vs i = x := ⟨_, rfl⟩
  have hx' : vs.getD i.toNat Yu = (x1, x2, x3, x4) := hx
  have hy : vs.getD (i - 1).toNat Yu = yj vs (i - 1) := rfl
  rw [hx'] at hmem
  rw [hx', hy]
  have e1 := wD x1 hmem
  have e2 := Zf l x2 (by omega)
  have e3 := K5 l x2 hl
  simp only [Bool.cond_eq_ite, decide_eq_true_eq, h0, h1, if_true, hw, hm, hx, Zp, e1, e2, e3, y46 _ _ i q t l cs vs z x1 x2 x3 x4 h0 (by omega) hv, Option.bind_some, gt_iff_lt]
  cases jv x1
  ·rfl
  by_cases h5 : 0 < i
  ·have h3 : 0 ≤ i - 1 := by omega
   have h4 : i - 1 < (vs.length : Int) := by omega
   simp only [h5, h3, h4, if_true, decide_true]
   by_cases ha : zJ l x2 < 0 <;> by_cases hk : (0 : Int) < ((Y8 l x2).length : Int) <;> simp only [ha, hk, if_true, if_false, decide_true, decide_false] <;> cases Go.Op.bytesLess (ByteArray.toList (yj vs (i - 1)).1) (ByteArray.toList x1) <;> cases inR x3 1 12 <;> cases Ym (wS x2) (vs.take i.toNat) 0 <;> rfl
  ·simp only [h5, if_false, decide_false]
   by_cases ha : zJ l x2 < 0 <;> by_cases hk : (0 : Int) < ((Y8 l x2).length : Int) <;> simp only [ha, hk, if_true, if_false, decide_true, decide_false] <;> cases inR x3 1 12 <;> cases Ym (wS x2) (vs.take i.toNat) 0 <;> rfl
 ·intro again i hi
  unfold jj
  simp only [Bool.cond_eq_ite, decide_eq_true_eq, if_neg hi]
 ·cases Ym (ydx vs l) vs 0 <;> rfl
theorem yaO (l : List ye) (v1 : ByteArray) (v2 v3 : Int) (v4 : Bool) (hl : l.length ≤ 1048576) : yG (l, v1, v2, v3, v4) = some (Ym (wS v2) l 0, v1, v2, v3, v4) := by
 have key : yY (l, v1, v2, v3, v4) = some (zQ (fun u : ye => u.2.1 == v2) l 0, v1, v2, v3, v4) := by
  unfold yY Yp
  refine (Ze (step := yR _ _) (fun i => (l, (l.length : Int), i, v1, v2, v3, v4)) (fun u : ye => u.2.1 == v2) (fun x => some (x, v1, v2, v3, v4)) (some (-1, v1, v2, v3, v4)) Yu l (by omega) ?_ ?_).trans ?_
  ·intro again i h0 h1
   have hw : Go.IntKind.wrap .i64 (i + 1) = i + 1 := w64 (by omega) (by omega)
   unfold yR WI
   simp only [Bool.cond_eq_ite, decide_eq_true_eq, h0, h1, if_true, hw, Option.bind_some]
   rfl
  ·intro again i hi
   unfold yR
   simp only [Bool.cond_eq_ite, decide_eq_true_eq, if_neg hi]
  ·rcases YE (fun u : ye => u.2.1 == v2) Yu l 0 (Int.le_refl _) with h | ⟨h1, h2, h3⟩
   ·rw [h]
    rfl
   ·rw [if_neg (by omega)]
 unfold yG
 rw [key]
 simp only [Option.bind_some, ge_iff_le]
 rw [ybN _ l 0 0 (Int.le_refl _)]
 rfl
theorem y8X (q : List Int) (t : List y0) (l : List ya) (cs : List y7) (vs : List ye) (z : Int) (hl : l.length ≤ 1048576) (hv : vs.length ≤ 1048576) (hvn : ∀ v ∈ vs, ByteArray.size v.1 ≤ maxLen) : WJ (q, t, l, cs, vs, z) = some (w6 vs l) := by
 unfold WJ QD w6
 refine (zP (step := Jj _ _) (fun i => (vs, (vs.length : Int), i, q, t, l, cs, vs, z)) (ydx vs l) (some false) (some (decide ((vs.length : Int) ≤ 6))) Yu vs (by omega) ?_ ?_).trans ?_
 ·intro again i h0 h1
  have hw : Go.IntKind.wrap .i64 (i + 1) = i + 1 := w64 (by omega) (by omega)
  have hm : Go.IntKind.wrap .i64 (i - 1) = i - 1 := w64 (by omega) (by omega)
  have hmem := hvn _ (ze Yu vs i h0 h1)
  unfold Jj ydx
  obtain ⟨⟨x1, x2, x3, x4⟩, hx⟩ : ∃ x, yj vs i = x := ⟨_, rfl⟩
  have hx' : vs.getD i.toNat Yu = (x1, x2, x3, x4) := hx
  have hy : vs.getD (i - 1).toNat Yu = yj vs (i - 1) := rfl
  rw [hx'] at hmem
  rw [hx', hy]
  have e1 := y51 x1 hmem
  have e2 := KR l x2 (by omega)
  have e3 := y53 l x2 hl
  have e4 : yG (List.drop (Int.toNat (0 : Int)) (List.take (Int.toNat i) vs), x1, x2, x3, x4) = some (Ym (wS x2) (vs.take i.toNat) 0, x1, x2, x3, x4) := yaO (vs.take i.toNat) x1 x2 x3 x4 (by simp only [List.length_take]; omega)
  have h2 : i ≤ (vs.length : Int) := by omega
  simp only [Bool.cond_eq_ite, decide_eq_true_eq, h0, h1, h2, if_true, hw, hm, hx, YN, e1, e2, e3, e4, Option.bind_some, gt_iff_lt, Int.le_refl]
  cases jv x1
  ·rfl
  by_cases h5 : 0 < i
  ·have h3 : 0 ≤ i - 1 := by omega
   have h4 : i - 1 < (vs.length : Int) := by omega
   simp only [h5, h3, h4, if_true, decide_true]
   by_cases ha : zJ l x2 < 0 <;> by_cases hk : (0 : Int) < ((Y8 l x2).length : Int) <;> simp only [ha, hk, if_true, if_false, decide_true, decide_false] <;> cases Go.Op.bytesLess (ByteArray.toList (yj vs (i - 1)).1) (ByteArray.toList x1) <;> cases inR x3 1 12 <;> cases Ym (wS x2) (vs.take i.toNat) 0 <;> rfl
  ·simp only [h5, if_false, decide_false]
   by_cases ha : zJ l x2 < 0 <;> by_cases hk : (0 : Int) < ((Y8 l x2).length : Int) <;> simp only [ha, hk, if_true, if_false, decide_true, decide_false] <;> cases inR x3 1 12 <;> cases Ym (wS x2) (vs.take i.toNat) 0 <;> rfl
 ·intro again i hi
  unfold Jj
  simp only [Bool.cond_eq_ite, decide_eq_true_eq, if_neg hi]
 ·cases Ym (ydx vs l) vs 0 <;> rfl
end Go.Proofs.YtjllpipmaejeoaaGreat.Pl
namespace Go.Proofs.YtjllpipmaejeoaaGreat.Pl
open Go.Proofs.YtjllpipmaejeoaaGreat.R Go.Proofs.YtjllpipmaejeoaaGreat.XU
def yU (c : Int) (_ : Int) (u : y8) : Bool := (u.2.2.1 == 1) && (u.2.2.2.1 == c)
def yaP (ks : List y8) (l : List ya) (cs : List y7) (i : Int) (a : y8) : Bool :=
 decide (zJ l a.2.1 < 0) || ((a.2.2.1 == 1) && (!(Yo cs a.2.2.2.1 a.2.2.2.2).2 || Ym (yU a.2.2.2.1) (ks.take i.toNat) 0))
def QR (n : Int) (a : y8) : Int := if (a.2.2.1 == 1) = true then Go.IntKind.wrap .i64 (n + 1) else n
def Zu (ks : List y8) (l : List ya) (cs : List y7) : Bool := !Ym (yaP ks l cs) ks 0 && (ks.foldl QR 0 == vZ cs)
theorem y47 {R : Type} (k0 : (Bool × Int × Int × List yb × List y0 × List ya × List y7 × List ye × Int × List y8) → Option R) (k1 : (Int × Int × List yb × List y0 × List ya × List y7 × List ye × Int × List y8) → Option R) (n i : Int) (q : List Int) (t : List y0) (l : List ya) (cs : List y7) (vs : List ye) (z : Int) (ks : List y8) (h0 : 0 ≤ i) (h1 : i < (ks.length : Int)) (hk : ks.length ≤ 1048576) :
  kq k0 k1 (n, i, 0, q, t, l, cs, vs, z, ks) = if Ym (yU (y6 ks i).2.2.2.1) (ks.take i.toNat) 0 = true then k0 (false, n, i, q, t, l, cs, vs, z, ks) else k1 (n, i, q, t, l, cs, vs, z, ks) := by
 unfold kq
 have hlen := ybO ks i h0 (by omega)
 refine zP (step := ZA k0 k1) (fun k => (n, i, k, q, t, l, cs, vs, z, ks)) (yU (y6 ks i).2.2.2.1) _ _ yI (ks.take i.toNat) (by omega) ?_ ?_
 ·intro again k hk0 hk1
  rw [hlen] at hk1
  have hw : Go.IntKind.wrap .i64 (k + 1) = k + 1 := w64 (by omega) (by omega)
  have hk2 : k < (ks.length : Int) := by omega
  unfold ZA yU
  rw [y8V yI ks i k hk0 hk1]
  have hx : ks.getD k.toNat yI = y6 ks k := rfl
  rw [hx]
  simp only [Bool.cond_eq_ite, decide_eq_true_eq, hk0, hk1, hk2, h0, h1, if_true, hw]
  cases ((y6 ks k).2.2.1 == 1) <;> cases ((y6 ks k).2.2.2.1 == (y6 ks i).2.2.2.1) <;> rfl
 ·intro again k hk
  rw [hlen] at hk
  unfold ZA
  simp only [Bool.cond_eq_ite, decide_eq_true_eq, if_neg hk]
theorem y48 (q : List Int) (t : List y0) (l : List ya) (cs : List y7) (vs : List ye) (z : Int) (ht : TOk t) (hl : l.length ≤ 1048576) (hc : cs.length ≤ 1048576) : wj (q, t, l, cs, vs, z) = some (Zu (yn t) l cs) := by
 unfold wj qS Zu
 have hk := ht.keys
 have e : yM (q, t) = some (yn t) := Ys q t (by have := ht.len; omega) ht.nodes ht.sum
 simp only [e, Option.bind_some]
 generalize yn t = ks at hk
 refine (y3j (step := jl _ _) (fun (i n : Int) => (n, i, q, t, l, cs, vs, z, ks)) (yaP ks l cs) QR (some false) (fun n => some (n == vZ cs)) yI ks (by omega) ?_ ?_ 0).trans ?_
 ·intro again i n h0 h1
  have hw : Go.IntKind.wrap .i64 (i + 1) = i + 1 := w64 (by omega) (by omega)
  unfold jl yaP QR
  have hin := fun (k0 : (Bool × Int × Int × List yb × List y0 × List ya × List y7 × List ye × Int × List y8) → Option Bool) k1 m => y47 k0 k1 m i q t l cs vs z ks h0 h1 hk
  obtain ⟨⟨x1, x2, x3, x4, x5⟩, hx⟩ : ∃ x, y6 ks i = x := ⟨_, rfl⟩
  have hx' : ks.getD i.toNat yI = (x1, x2, x3, x4, x5) := hx
  rw [hx']
  rw [hx] at hin
  have e1 := Zf l x2 (by omega)
  have e2 := y0J cs x4 x5 hc
  simp only [Bool.cond_eq_ite, decide_eq_true_eq, h0, h1, if_true, hw, hx, e1, e2, hin, Option.bind_some]
  by_cases ha : zJ l x2 < 0
  ·simp only [ha, if_true, decide_true, Bool.true_or]
  ·simp only [ha, if_false, decide_false, Bool.false_or]
   by_cases h3 : x3 = 1
   ·have g1 : (x3 == 1) = true := by simp [h3]
    have g2 : (x3 != 1) = false := by simp [h3]
    rw [g1, g2]
    cases (Yo cs x4 x5).2 <;> cases Ym (yU x4) (ks.take i.toNat) 0 <;> rfl
   ·have g1 : (x3 == 1) = false := by simpa using h3
    have g2 : (x3 != 1) = true := by simpa using h3
    rw [g1, g2]
    rfl
 ·intro again i n hi
  unfold jl
  simp only [Bool.cond_eq_ite, decide_eq_true_eq, if_neg hi, y8U cs hc, Option.bind_some]
 ·cases Ym (yaP ks l cs) ks 0 <;> rfl
theorem ybP (c : Int) : ∀ (l : List y8) (i : Int) (j : Nat), j < l.length → Ym (yU c) (l.take (j + 1)) i = (Ym (yU c) (l.take j) i || yU c 0 (l.getD j yI))
 | a :: l, i, 0, _ => by simp [Ym, yU]
 | a :: l, i, j + 1, h => by
  have := ybP c l (i + 1) j (by simpa using h)
  rw [List.take_succ_cons, Ym, this, List.take_succ_cons, Ym, List.getD_cons_succ, Bool.or_assoc]
def yd7 (s : Int × List Bool) (a : y8) : Int × List Bool := (QR s.1 a, if (a.2.2.1 == 1) = true then s.2.set a.2.2.2.1.toNat true else s.2)
theorem yiM : ∀ (l : List y8) (s : Int × List Bool), (l.foldl yd7 s).1 = l.foldl QR s.1
 | [], _ => rfl
 | a :: l, s => yiM l (yd7 s a)
theorem y49 (q : List Int) (t : List y0) (l : List ya) (cs : List y7) (vs : List ye) (z : Int) (ht : TOk t) (hl : l.length ≤ 1048576) (hc : cs.length = 24) : wv (q, t, l, cs, vs, z) = some (Zu (yn t) l cs) := by
 unfold wv qW Zu
 have hk := ht.keys
 have e : zN (q, t) = some (yn t) := KB q t (by have := ht.len; omega) ht.nodes ht.sum
 rw [if_pos (by omega), if_pos (Int.le_refl _), if_pos (by omega)]
 simp only [e, Option.bind_some]
 generalize yn t = ks at hk
 refine (y43 (step := jr _ _) (fun (i : Int) (s : Int × List Bool) => (s.1, (ks.length : Int), i, q, t, l, cs, vs, z, s.2, ks)) (fun i s a => if yaP ks l cs i a = true then .error (some false) else .ok (yd7 s a)) (fun s => some (s.1 == vZ cs)) yI ks (by omega) (fun j s => s.2.length = 24 ∧ ∀ c : Nat, c < 24 → s.2.getD c false = Ym (yU (c : Int)) (ks.take j) 0) ?_ ?_ 0 (Int.le_refl _) (0, List.replicate (Int.toNat 24) yei) ⟨rfl, fun c hc => ?_⟩).trans ?_
 ·rintro again i ⟨n, tk⟩ h0 h1 ⟨hI1, hI2⟩
  simp only at hI1 hI2
  have hw : Go.IntKind.wrap .i64 (i + 1) = i + 1 := w64 (by omega) (by omega)
  obtain ⟨⟨x1, x2, x3, x4, x5⟩, hx⟩ : ∃ x, y6 ks i = x := ⟨_, rfl⟩
  have hx' : ks.getD i.toNat yI = (x1, x2, x3, x4, x5) := hx
  have hgd : ks.getD i.toNat yI = ks.getD i.toNat yI := rfl
  have e1 := KR l x2 (by omega)
  have e2 := y0K cs x4 x5 (by omega)
  have hcell : (Yo cs x4 x5).2 = true → 0 ≤ x4 ∧ x4 < 24 := fun h => by
   unfold Yo at h
   split at h
   ·rename_i hh
    simp only [Bool.and_eq_true] at hh
    have := zl.1 hh.1
    omega
   ·cases h
  rw [hx']
  refine ⟨?_, fun s' hs' => ?_⟩
  ·unfold jr yaP yd7 QR
   simp only [Bool.cond_eq_ite, decide_eq_true_eq, h0, h1, if_true, hw, hx, e1, e2, Option.bind_some]
   by_cases ha : zJ l x2 < 0
   ·simp only [ha, if_true, decide_true, Bool.true_or]
   ·simp only [ha, if_false, decide_false, Bool.false_or]
    by_cases h3 : x3 = 1
    ·have g1 : (x3 == 1) = true := by simp [h3]
     have g2 : (x3 != 1) = false := by simp [h3]
     rw [g1, g2]
     cases hok : (Yo cs x4 x5).2 with
     | false => rfl
     | true =>
      obtain ⟨b0, b1⟩ := hcell hok
      have b2 : x4 < (tk.length : Int) := by omega
      have hrd : yej tk x4 = Ym (yU x4) (ks.take i.toNat) 0 := by
       have := hI2 x4.toNat (by omega)
       rw [show ((x4.toNat : Nat) : Int) = x4 by omega] at this
       exact this
      simp only [b0, b2, if_true, hrd]
      cases Ym (yU x4) (ks.take i.toNat) 0 <;> rfl
    ·have g1 : (x3 == 1) = false := by simpa using h3
     have g2 : (x3 != 1) = true := by simpa using h3
     rw [g1, g2]
     rfl
  ·by_cases hb : yaP ks l cs i (x1, x2, x3, x4, x5) = true
   ·rw [if_pos hb] at hs'
    cases hs'
   ·rw [if_neg hb] at hs'
    injection hs' with hs'
    subst hs'
    have hsucc : ∀ c : Int, Ym (yU c) (ks.take (i.toNat + 1)) 0 = (Ym (yU c) (ks.take i.toNat) 0 || yU c 0 (x1, x2, x3, x4, x5)) := fun c => by
     rw [ybP c ks 0 i.toNat (by omega), hx']
    unfold yd7
    simp only
    by_cases h3 : x3 = 1
    ·have g1 : (x3 == 1) = true := by simp [h3]
     simp only [g1, if_true]
     have hok : (Yo cs x4 x5).2 = true := by
      unfold yaP at hb
      simp only [g1] at hb
      cases hh : (Yo cs x4 x5).2 with
      | true => rfl
      | false =>
       rw [hh] at hb
       simp at hb
     obtain ⟨b0, b1⟩ := hcell hok
     refine ⟨by simpa using hI1, fun c hc => ?_⟩
     rw [hsucc, ← hI2 c hc]
     unfold yU
     simp only [g1, Bool.true_and]
     rw [List.getD_eq_getElem?_getD, List.getD_eq_getElem?_getD]
     by_cases hcx : c = x4.toNat
     ·rw [← hcx, List.getElem?_set_self (by omega)]
      have : (x4 == (c : Int)) = true := by
       simp only [beq_iff_eq]
       omega
      rw [this]
      simp
     ·rw [List.getElem?_set_ne (fun h => hcx h.symm)]
      have : (x4 == (c : Int)) = false := by
       simp only [beq_eq_false_iff_ne, ne_eq]
       omega
      rw [this]
      simp
    ·have g1 : (x3 == 1) = false := by simpa using h3
     simp only [g1, Bool.false_eq_true, if_false]
     refine ⟨hI1, fun c hc => ?_⟩
     rw [hsucc, ← hI2 c hc]
     unfold yU
     simp only [g1, Bool.false_and, Bool.or_false]
 ·rintro again i ⟨n, tk⟩ hi
  unfold jr
  simp only [Bool.cond_eq_ite, decide_eq_true_eq, if_neg hi, QQ cs (by omega), Option.bind_some]
  rw [Bool.beq_comm]
 ·show (List.replicate 24 false).getD c false = _
  rw [List.getD_eq_getElem?_getD, List.getElem?_replicate]
  simp [Ym, hc]
 ·have := y3i (yaP ks l cs) yd7 (some false) (fun s : Int × List Bool => some (s.1 == vZ cs)) ks 0 (0, List.replicate (Int.toNat 24) yei)
  rw [show (0 : Int).toNat = 0 from rfl, List.drop_zero, this, yiM]
  cases Ym (yaP ks l cs) ks 0 <;> rfl
def Vv (z : Int) (_ : Int) (a : ya) : Bool := decide (a.1 ≥ z)
def yr (q : List Int) (t : List y0) (l : List ya) (cs : List y7) (vs : List ye) (z : Int) : Bool :=
 z7 q t && (jF l && (yZ cs && (inR z 1 61 && (!Ym (Vv z) l 0 && (w6 vs l && Zu (yn t) l cs)))))
theorem y0L (q : List Int) (t : List y0) (l : List ya) (cs : List y7) (vs : List ye) (z : Int) (ht : TOk t) (hl : l.length ≤ 1048576) (hc : cs.length ≤ 1048576) (hv : vs.length ≤ 1048576) (hvn : ∀ v ∈ vs, ByteArray.size v.1 ≤ maxLen) : yJ (q, t, l, cs, vs, z) = some (yr q t l cs vs z) := by
 unfold yJ Ql yr
 refine (zP (step := jY _ _) (fun i => (i, q, t, l, cs, vs, z)) (Vv z) (some false) (some (z7 q t && (jF l && (yZ cs && (inR z 1 61 && (w6 vs l && Zu (yn t) l cs)))))) zA l (by omega) ?_ ?_).trans ?_
 ·intro again i h0 h1
  have hw : Go.IntKind.wrap .i64 (i + 1) = i + 1 := w64 (by omega) (by omega)
  unfold jY Vv
  have hx : l.getD i.toNat zA = yO l i := rfl
  rw [hx]
  simp only [Bool.cond_eq_ite, decide_eq_true_eq, h0, h1, if_true, hw]
 ·intro again i hi
  unfold jY
  simp only [Bool.cond_eq_ite, decide_eq_true_eq, if_neg hi, Vt q t ht, K4 l hl, Jt cs hc, Zp, y8W q t l cs vs z hl hv hvn, y48 q t l cs vs z ht hl hc, Option.bind_some]
  cases z7 q t <;> cases jF l <;> cases yZ cs <;> cases inR z 1 61 <;> cases w6 vs l <;> rfl
 ·cases Ym (Vv z) l 0 <;> cases z7 q t <;> cases jF l <;> cases yZ cs <;> cases inR z 1 61 <;> rfl
theorem y55 (q : List Int) (t : List y0) (l : List ya) (cs : List y7) (vs : List ye) (z : Int) (ht : TOk t) (hl : l.length ≤ 1048576) (hc : cs.length ≤ 1048576) (hv : vs.length ≤ 1048576) (hvn : ∀ v ∈ vs, ByteArray.size v.1 ≤ maxLen) : zG (q, t, l, cs, vs, z) = some (yr q t l cs vs z) := by
 unfold zG yr
 simp only [Vu q t ht, y52 l hl, vR cs hc, YN, Option.bind_some]
 cases z7 q t
 ·rfl
 cases jF l
 ·rfl
 cases hcc : yZ cs
 ·rfl
 cases inR z 1 61
 ·rfl
 have hc24 : cs.length = 24 := by
  unfold yZ at hcc
  simp only [Bool.and_eq_true, beq_iff_eq] at hcc
  omega
 simp only [Bool.not_true, cond_false, Option.bind_some, Bool.true_and]
 unfold QE
 refine (zP (step := Jk _ _) (fun i => (l, (l.length : Int), i, q, t, l, cs, vs, z)) (Vv z) (some false) (some (w6 vs l && Zu (yn t) l cs)) zA l (by omega) ?_ ?_).trans ?_
 ·intro again i h0 h1
  have hw : Go.IntKind.wrap .i64 (i + 1) = i + 1 := w64 (by omega) (by omega)
  unfold Jk Vv
  have hx : l.getD i.toNat zA = yO l i := rfl
  rw [hx]
  simp only [Bool.cond_eq_ite, decide_eq_true_eq, h0, h1, if_true, hw]
 ·intro again i hi
  unfold Jk
  simp only [Bool.cond_eq_ite, decide_eq_true_eq, if_neg hi, y8X q t l cs vs z hl hv hvn, y49 q t l cs vs z ht hl hc24, Option.bind_some]
  cases w6 vs l <;> rfl
 ·cases Ym (Vv z) l 0 <;> rfl
end Go.Proofs.YtjllpipmaejeoaaGreat.Pl
namespace Go.Proofs.YtjllpipmaejeoaaGreat.Pl
open Go.Proofs.YtjllpipmaejeoaaGreat.R Go.Proofs.YtjllpipmaejeoaaGreat.XU
theorem w7 {A : Type} (p : Int → A → Bool) : ∀ (l : List A) (i : Int), Ym p l i = false → ∀ a ∈ l, ∃ j, p j a = false
 | [], _, _, a, h => by simp at h
 | b :: l, i, h, a, ha => by
  simp only [Ym, Bool.or_eq_false_iff] at h
  rcases List.mem_cons.1 ha with rfl | ha
  ·exact ⟨i, h.1⟩
  ·exact w7 p l (i + 1) h.2 a ha
theorem y3k {s : List y8} (h : kc s = true) : s.length ≤ 60 ∧ ∀ k ∈ s, zR k = true := by
 unfold kc at h
 simp only [Bool.and_eq_true, Bool.not_eq_true', decide_eq_true_eq] at h
 refine ⟨by omega, fun k hk => ?_⟩
 obtain ⟨j, hj⟩ := w7 _ s 0 h.1 k hk
 simpa using hj
theorem y1B {n : List y9} (h : Yn n = true) : n.length ≤ 3 ∧ ∀ s ∈ n, kc s = true := by
 unfold Yn at h
 simp only [Bool.and_eq_true, Bool.not_eq_true', decide_eq_true_eq] at h
 refine ⟨by omega, fun s hs => ?_⟩
 obtain ⟨j, hj⟩ := w7 _ n 0 h.1 s hs
 unfold y1z at hj
 simp only [Bool.or_eq_false_iff, Bool.not_eq_false'] at hj
 exact hj.1
theorem jw {q : List Int} {t : List y0} (h : z7 q t = true) : q.length = t.length ∧ 1 ≤ t.length ∧ t.length ≤ 20 ∧ ∀ n ∈ t, Yn n = true := by
 unfold z7 at h
 simp only [Bool.and_eq_true, Bool.not_eq_true', decide_eq_true_eq, zl] at h
 obtain ⟨h1, h2, _, h3, _⟩ := h
 refine ⟨h2, by omega, by omega, fun n hn => ?_⟩
 obtain ⟨j, hj⟩ := w7 _ t 0 h3 n hn
 unfold KC at hj
 simp only [Bool.or_eq_false_iff, Bool.not_eq_false'] at hj
 have h4 := hj.2
 unfold y1A at h4
 simp only [Bool.and_eq_true] at h4
 exact h4.1
end Go.Proofs.YtjllpipmaejeoaaGreat.Pl
namespace Go.Proofs.YtjllpipmaejeoaaGreat.Pl
open Go.Proofs.YtjllpipmaejeoaaGreat.R Go.Proofs.YtjllpipmaejeoaaGreat.XU
theorem Kj {a b : y8} : wQ a b = true ↔ a.1 < b.1 ∨ a.1 = b.1 ∧ a.2.1 < b.2.1 := by
 unfold wQ
 by_cases h1 : a.1 < b.1
 ·simp [h1]
 ·by_cases h2 : a.1 = b.1 <;> simp [h1, h2]
theorem WY {a b : y8} : ZU a b = true ↔ a.1 = b.1 ∧ a.2.1 = b.2.1 := by simp [ZU]
theorem y0Y {a b c : y8} (h1 : wQ a b = true) (h2 : wQ b c = true) : wQ a c = true := by
 rw [Kj] at *
 omega
def srt (l : List y8) : Prop := l.Pairwise fun a b => wQ a b = true
def y7Z : List y8 → y8 → List y8
 | [], k => [k]
 | c :: r, k => if wQ c k = true then c :: y7Z r k else k :: (c :: r).filter fun x => !ZU x k
theorem ybQ (k : y8) : ∀ (l o : List y8), l.foldl (jE k) (true, o) = (true, o ++ l.filter fun x => !ZU x k)
 | [], o => by simp
 | c :: l, o => by
  rw [List.foldl_cons, List.filter_cons]
  have e : jE k (true, o) c = (true, if ZU c k then o else o ++ [c]) := by simp [jE]
  rw [e, ybQ k l]
  cases ZU c k <;> simp
def ylx (k : y8) (r : Bool × List y8) : List y8 := if r.1 then r.2 else r.2 ++ [k]
theorem y8Y (k : y8) : ∀ (l o : List y8), ylx k (l.foldl (jE k) (false, o)) = o ++ y7Z l k
 | [], o => by simp [y7Z, ylx]
 | c :: l, o => by
  rw [List.foldl_cons, y7Z]
  cases hl : wQ c k with
  | true =>
   have hs : ZU c k = false := by
    cases hs : ZU c k with
    | false => rfl
    | true =>
     rw [Kj] at hl
     rw [WY] at hs
     omega
   have e : jE k (false, o) c = (false, o ++ [c]) := by simp [jE, hl, hs]
   rw [e, y8Y k l (o ++ [c])]
   simp
  | false =>
   have e : jE k (false, o) c = (true, if ZU c k then o ++ [k] else o ++ [k] ++ [c]) := by simp [jE, hl]
   rw [e, ybQ]
   simp only [ylx, if_true, List.filter_cons, Bool.false_eq_true, if_false]
   cases ZU c k <;> simp
theorem kP (l : List y8) (k : y8) : zT l k = y7Z l k := by
 exact (y8Y k l []).trans (List.nil_append _)
theorem y7J {k : y8} : ∀ {l : List y8} {x : y8}, x ∈ y7Z l k → x = k ∨ x ∈ l
 | [], x, h => by simpa [y7Z] using h
 | c :: r, x, h => by
  rw [y7Z] at h
  split at h
  ·rcases List.mem_cons.1 h with rfl | h
   ·exact .inr (by simp)
   ·rcases y7J h with h | h
    ·exact .inl h
    ·exact .inr (by simp [h])
  ·rcases List.mem_cons.1 h with rfl | h
   ·exact .inl rfl
   ·exact .inr (List.mem_filter.1 h).1
theorem ybR (k : y8) : ∀ (l : List y8), srt l → srt (y7Z l k)
 | [], _ => by simp [srt, y7Z]
 | c :: r, h => by
  obtain ⟨h1, h2⟩ := List.pairwise_cons.1 h
  rw [y7Z]
  split
  ·rename_i hl
   refine List.pairwise_cons.2 ⟨fun y hy => ?_, ybR k r h2⟩
   rcases y7J hy with rfl | hy
   ·exact hl
   ·exact h1 y hy
  ·rename_i hl
   refine List.pairwise_cons.2 ⟨fun y hy => ?_, List.Pairwise.filter _ h⟩
   obtain ⟨hy, hs⟩ := List.mem_filter.1 hy
   have hs' : ¬ (y.1 = k.1 ∧ y.2.1 = k.2.1) := fun e => by
    rw [WY.2 e] at hs
    cases hs
   rw [Kj] at hl ⊢
   rcases List.mem_cons.1 hy with rfl | hy
   ·omega
   ·have := Kj.1 (h1 y hy)
    omega
theorem JU {l : List y8} (k : y8) (h : srt l) : srt (zT l k) := by rw [kP]; exact ybR k l h
theorem y0i {l : List y8} {k x : y8} (h : x ∈ zT l k) : x = k ∨ x ∈ l := by rw [kP] at h; exact y7J h
theorem qb : ∀ (b a : List y8), srt a → srt (YP a b)
 | [], _, h => h
 | c :: b, a, h => qb b _ (JU c h)
theorem y5O : ∀ (b a : List y8) {x : y8}, x ∈ YP a b → x ∈ a ∨ x ∈ b
 | [], _, _, h => .inl h
 | c :: b, a, x, h => by
  rcases y5O b (zT a c) h with h | h
  ·rcases y0i h with rfl | h
   ·exact .inr (by simp)
   ·exact .inl h
  ·exact .inr (by simp [h])
theorem ybS : ∀ (l s : List y8), l.foldl vQ s = s ++ l.filter fun c => !decide (c.2.2.1 = 0)
 | [], s => by simp
 | c :: l, s => by
  rw [List.foldl_cons, ybS l, List.filter_cons]
  unfold vQ
  by_cases h : c.2.2.1 = 0 <;> simp [h]
theorem qC (l : List y8) : ka l = l.filter fun c => !decide (c.2.2.1 = 0) := by
 have := ybS l []
 simpa [ka] using this
theorem Kl {l : List y8} (h : srt l) : srt (ka l) := by rw [qC]; exact List.Pairwise.filter _ h
theorem y4a {l : List y8} {x : y8} (h : x ∈ ka l) : x ∈ l := by rw [qC] at h; exact (List.mem_filter.1 h).1
theorem y4b : ∀ (n : List y9) (s : List y8), srt s → srt (n.foldl YP s)
 | [], _, h => h
 | c :: n, s, h => y4b n _ (qb c s h)
theorem y8Z : ∀ (n : List y9) (s : List y8) {x : y8}, x ∈ n.foldl YP s → x ∈ s ∨ ∃ c ∈ n, x ∈ (show List y8 from c)
 | [], _, _, h => .inl h
 | c :: n, s, x, h => by
  rcases y8Z n (YP s c) h with h | ⟨d, hd, hx⟩
  ·rcases y5O c s h with h | h
   ·exact .inl h
   ·exact .inr ⟨c, by simp, h⟩
  ·exact .inr ⟨d, by simp [hd], hx⟩
theorem Km (n : List y9) : srt (yA n) := Kl (y4b n [] List.Pairwise.nil)
theorem QS {n : List y9} {x : y8} (h : x ∈ yA n) : ∃ c ∈ n, x ∈ (show List y8 from c) := by
 rcases y8Z n [] (y4a h) with h | h
 ·cases h
 ·exact h
theorem Kn {A : Type} {p : Int → A → Bool} (da : A) : ∀ (l : List A) (i : Int), (∀ j : Nat, j < l.length → p (i + j) (l.getD j da) = false) → Ym p l i = false
 | [], _, _ => rfl
 | a :: l, i, h => by
  rw [Ym, Bool.or_eq_false_iff]
  refine ⟨by simpa using h 0 (by simp), Kn da l (i + 1) fun j hj => ?_⟩
  have := h (j + 1) (by simpa using hj)
  rw [List.getD_cons_succ] at this
  rw [show i + 1 + (j : Int) = i + ((j + 1 : Nat) : Int) by omega]
  exact this
theorem zd {A : Type} (da : A) (l : List A) (j : Nat) (h : j < l.length) : l.getD j da = l[j] := by simp [List.getD, h]
theorem yf3 {l : List y8} (h : srt l) : Ym (w5 l) l 0 = false := by
 refine Kn yI l 0 fun j hj => ?_
 unfold w5
 cases j with
 | zero => simp
 | succ j =>
  have h2 := List.pairwise_iff_getElem.1 h j (j + 1) (by omega) hj (by omega)
  rw [show ((0 : Int) + ((j + 1 : Nat) : Int) - 1).toNat = j by omega, zd _ _ _ (by omega), zd _ _ _ hj, h2]
  simp
theorem yrX {l : List y8} (h : srt l) (hk : ∀ k ∈ l, zR k = true) (hl : l.length ≤ 60) : kc l = true := by
 unfold kc
 rw [yf3 h, Kn yI l 0 fun j hj => by
  rw [zd _ _ _ hj, hk _ (List.getElem_mem hj)]
  rfl]
 simp
 omega
def yK (l : List y8) : List y9 := if l.length = 0 then [] else [l]
theorem y2d {l : List y8} (h : srt l) (hk : ∀ k ∈ l, zR k = true) (hl : l.length ≤ 8) : Yn (yK l) = true := by
 unfold yK
 split
 ·rfl
 ·rename_i h0
  have h1 := yrX h hk (by omega)
  have h2 : y0I 0 l = (List.length l : Int) := by
   unfold y0I
   rw [w64 (by omega) (by omega)]
   omega
  unfold Yn
  simp only [Ym, y1z, h1, Bool.not_true, Bool.false_or, Bool.or_false, List.foldl_cons, List.foldl_nil, h2, List.length_cons, List.length_nil]
  rw [show (((List.length l : Nat) : Int) == 0) = false from beq_eq_false_iff_ne.2 (by omega)]
  simp
  omega
end Go.Proofs.YtjllpipmaejeoaaGreat.Pl
namespace Go.Proofs.YtjllpipmaejeoaaGreat.Pl
open Go.Proofs.YtjllpipmaejeoaaGreat.R Go.Proofs.YtjllpipmaejeoaaGreat.XU
theorem y3l {T A R : Type} {step : (T → Option R) → T → Option R} (da : A) (l : List A) (St0 : Int → T) (St1 : Int → List A → T) (k0 : Option R) (k1 : List A → Option R) (hl : l.length ≤ 1099511627776)
  (h0 : ∀ again i, 0 ≤ i → i < ((List.length l : Nat) : Int) → step again (St0 i) = again (St1 (i + 1) [l.getD i.toNat da]))
  (h1 : ∀ again i o, 0 ≤ i → i < ((List.length l : Nat) : Int) → List.length o ≤ List.length l → step again (St1 i o) = again (St1 (i + 1) (o ++ [l.getD i.toNat da])))
  (hd0 : ∀ again i, ¬ i < ((List.length l : Nat) : Int) → step again (St0 i) = k0)
  (hd1 : ∀ again i o, ¬ i < ((List.length l : Nat) : Int) → step again (St1 i o) = k1 o) : zL step Y4 (St0 0) = if l.length = 0 then k0 else k1 l := by
 have key : ∀ (m : Nat) (i : Int), 0 ≤ i → i ≤ l.length → l.length - i.toNat < m → zL step m (St1 i (l.take i.toNat)) = k1 l := by
  intro m
  induction m with
  | zero => intro i _ _ h; omega
  | succ m ih =>
   intro i i0 i1 hm
   rw [zL]
   by_cases hi : i < ((List.length l : Nat) : Int)
   ·have e1 : (i + 1).toNat = i.toNat + 1 := by omega
    have e2 : l.take i.toNat ++ [l.getD i.toNat da] = l.take (i + 1).toNat := by
     rw [e1, List.take_succ_eq_append_getElem (by omega), y7C da l i i0 hi]
    rw [h1 _ i _ i0 hi (by rw [List.length_take]; omega), e2]
    exact ih (i + 1) (by omega) (by omega) (by omega)
   ·rw [hd1 _ i _ hi, List.take_of_length_le (by omega)]
 have hF : Y4 = (Y4 - 1) + 1 := by
  have := y0T
  omega
 rw [hF, zL]
 by_cases h : l.length = 0
 ·rw [if_pos h, hd0 _ 0 (by omega)]
 ·rw [if_neg h, h0 _ 0 (Int.le_refl _) (by omega)]
  have e : [l.getD (0 : Int).toNat da] = l.take (0 + 1 : Int).toNat := by
   cases l with
   | nil => simp at h
   | cons a l => rfl
  rw [e]
  exact key _ _ (by omega) (by omega) (by
   have := y0T
   omega)
theorem ysH {A : Type} (a : A) (k : Nat) (h : k < 140737488355328) : List.length [a] * k < 140737488355328 := by
 simp only [List.length_cons, List.length_nil]
 omega
end Go.Proofs.YtjllpipmaejeoaaGreat.Pl
namespace Go.Proofs.YtjllpipmaejeoaaGreat.Pl
open Go.Proofs.YtjllpipmaejeoaaGreat.R Go.Proofs.YtjllpipmaejeoaaGreat.XU
def y2U (n : y0) : Prop := List.length n ≤ 1048576 ∧ ∀ b ∈ (show List y9 from n), List.length b ≤ 1048576
theorem Vw (n : List y9) (h : y2U n) : zi n = some n := by
 have h1 : n.length ≤ 1048576 := h.1
 have e : zi n = if n.length = 0 then some ([] : List y9) else some n := by
  unfold zi Qm
  refine y3l (step := YG _ _) z6 n (fun i => Sum.inl (i, n)) (fun i o => Sum.inr (i, n, o)) _ (fun o => some o) (by omega) ?_ ?_ ?_ ?_
  ·intro again i i0 i1
   have hw : Go.IntKind.wrap .i64 (i + 1) = i + 1 := w64 (by omega) (by omega)
   have hr : List.length (yq n i) ≤ 1048576 := h.2 _ (ze z6 n i i0 i1)
   simp only [YG, Bool.cond_eq_ite, decide_eq_true_eq, i0, i1, if_true, hw]
   rw [if_pos (by simp only [List.length_nil]; omega), if_pos (ysH _ _ (by decide))]
   rfl
  ·intro again i o i0 i1 i2
   have hw : Go.IntKind.wrap .i64 (i + 1) = i + 1 := w64 (by omega) (by omega)
   have hr : List.length (yq n i) ≤ 1048576 := h.2 _ (ze z6 n i i0 i1)
   simp only [YG, Bool.cond_eq_ite, decide_eq_true_eq, i0, i1, if_true, hw]
   rw [if_pos (by simp only [List.length_nil]; omega), if_pos (by simp only [List.length_cons, List.length_nil]; omega)]
   rfl
  ·intro again i hi
   simp only [YG, Bool.cond_eq_ite, decide_eq_true_eq, if_neg hi]
  ·intro again i o hi
   simp only [YG, Bool.cond_eq_ite, decide_eq_true_eq, if_neg hi]
 rw [e]
 split
 ·rename_i h0
  rw [List.length_eq_zero_iff.1 h0]
 ·rfl
theorem KD (l : List y8) (h : l.length ≤ 1048576) : Y0 l = some l := by
 unfold Y0
 rw [if_pos (by simp only [List.length_nil]; omega)]
 rfl
theorem KE (n : List y9) (h : y2U n) : zv n = some n := by
 have h1 : n.length ≤ 1048576 := h.1
 have e : zv n = if n.length = 0 then some ([] : List y9) else some n := by
  unfold zv VV
  refine y3l (step := Yc _ _) z6 n (fun i => Sum.inl (n, ((List.length n : Nat) : Int), i)) (fun i o => Sum.inr (n, ((List.length n : Nat) : Int), i, o)) _ (fun o => some o) (by omega) ?_ ?_ ?_ ?_
  ·intro again i i0 i1
   have hw : Go.IntKind.wrap .i64 (i + 1) = i + 1 := w64 (by omega) (by omega)
   have hr : List.length (yq n i) ≤ 1048576 := h.2 _ (ze z6 n i i0 i1)
   simp only [Yc, Bool.cond_eq_ite, decide_eq_true_eq, i0, i1, if_true, hw, KD _ hr, Option.bind_some]
   rw [if_pos (ysH _ _ (by decide))]
   rfl
  ·intro again i o i0 i1 i2
   have hw : Go.IntKind.wrap .i64 (i + 1) = i + 1 := w64 (by omega) (by omega)
   have hr : List.length (yq n i) ≤ 1048576 := h.2 _ (ze z6 n i i0 i1)
   simp only [Yc, Bool.cond_eq_ite, decide_eq_true_eq, i0, i1, if_true, hw, KD _ hr, Option.bind_some]
   rw [if_pos (by simp only [List.length_cons, List.length_nil]; omega)]
   rfl
  ·intro again i hi
   simp only [Yc, Bool.cond_eq_ite, decide_eq_true_eq, if_neg hi]
  ·intro again i o hi
   simp only [Yc, Bool.cond_eq_ite, decide_eq_true_eq, if_neg hi]
 rw [e]
 split
 ·rename_i h0
  rw [List.length_eq_zero_iff.1 h0]
 ·rfl
theorem Vx (q : List yb) (t : List y0) (hq : q.length ≤ 1048576) (ht : t.length ≤ 1048576) (hn : ∀ n ∈ t, y2U n) : Z1 (q, t) = some (q, t) := by
 have e : Z1 (q, t) = if t.length = 0 then some (q, ([] : List y0)) else some (q, t) := by
  unfold Z1 Qn
  simp only [List.length_nil, List.nil_append]
  rw [if_pos (by omega)]
  refine y3l (step := YH _ _) yh t (fun i => Sum.inl (i, q, t, q)) (fun i o => Sum.inr (i, q, t, q, o)) _ (fun o => some (q, o)) (by omega) ?_ ?_ ?_ ?_
  ·intro again i i0 i1
   have hw : Go.IntKind.wrap .i64 (i + 1) = i + 1 := w64 (by omega) (by omega)
   have hr : y2U (yf t i) := hn _ (ze yh t i i0 i1)
   simp only [YH, Bool.cond_eq_ite, decide_eq_true_eq, i0, i1, if_true, hw, Vw _ hr, Option.bind_some]
   rw [if_pos (ysH _ _ (by decide))]
   rfl
  ·intro again i o i0 i1 i2
   have hw : Go.IntKind.wrap .i64 (i + 1) = i + 1 := w64 (by omega) (by omega)
   have hr : y2U (yf t i) := hn _ (ze yh t i i0 i1)
   simp only [YH, Bool.cond_eq_ite, decide_eq_true_eq, i0, i1, if_true, hw, Vw _ hr, Option.bind_some]
   rw [if_pos (by simp only [List.length_cons, List.length_nil]; omega)]
   rfl
  ·intro again i hi
   simp only [YH, Bool.cond_eq_ite, decide_eq_true_eq, if_neg hi]
  ·intro again i o hi
   simp only [YH, Bool.cond_eq_ite, decide_eq_true_eq, if_neg hi]
 rw [e]
 split
 ·rename_i h0
  rw [List.length_eq_zero_iff.1 h0]
 ·rfl
theorem qZ (l : List yb) (h : l.length ≤ 1048576) : ZP l = some l := by
 unfold ZP
 rw [if_pos (by simp only [List.length_nil]; omega)]
 rfl
theorem KF (q : List yb) (t : List y0) (hq : q.length ≤ 1048576) (ht : t.length ≤ 1048576) (hn : ∀ n ∈ t, y2U n) : zr (q, t) = some (q, t) := by
 have e : zr (q, t) = if t.length = 0 then some (q, ([] : List y0)) else some (q, t) := by
  unfold zr VW
  simp only [qZ q hq, Option.bind_some]
  refine y3l (step := Yd _ _) yh t (fun i => Sum.inl (t, ((List.length t : Nat) : Int), i, q)) (fun i o => Sum.inr (t, ((List.length t : Nat) : Int), i, q, o)) _ (fun o => some (q, o)) (by omega) ?_ ?_ ?_ ?_
  ·intro again i i0 i1
   have hw : Go.IntKind.wrap .i64 (i + 1) = i + 1 := w64 (by omega) (by omega)
   have hr : y2U (yf t i) := hn _ (ze yh t i i0 i1)
   simp only [Yd, Bool.cond_eq_ite, decide_eq_true_eq, i0, i1, if_true, hw, KE _ hr, Option.bind_some]
   rw [if_pos (ysH _ _ (by decide))]
   rfl
  ·intro again i o i0 i1 i2
   have hw : Go.IntKind.wrap .i64 (i + 1) = i + 1 := w64 (by omega) (by omega)
   have hr : y2U (yf t i) := hn _ (ze yh t i i0 i1)
   simp only [Yd, Bool.cond_eq_ite, decide_eq_true_eq, i0, i1, if_true, hw, KE _ hr, Option.bind_some]
   rw [if_pos (by simp only [List.length_cons, List.length_nil]; omega)]
   rfl
  ·intro again i hi
   simp only [Yd, Bool.cond_eq_ite, decide_eq_true_eq, if_neg hi]
  ·intro again i o hi
   simp only [Yd, Bool.cond_eq_ite, decide_eq_true_eq, if_neg hi]
 rw [e]
 split
 ·rename_i h0
  rw [List.length_eq_zero_iff.1 h0]
 ·rfl
theorem WZ (q : List yb) (t : List y0) (l : List ya) (cs : List y7) (vs : List ye) (z : Int) (h : small q t l cs vs) : yl (q, t, l, cs, vs, z) = some (q, t, l, cs, vs, z) := by
 obtain ⟨h1, h2, h3, h4, h5, h6⟩ := h
 unfold yl zX
 simp only [Vx q t h1 h2 (fun n hn => KU h3 hn), Option.bind_some, List.length_nil, List.nil_append]
 rw [if_pos (by omega), if_pos (by omega)]
 simp only [Option.bind_some]
 rw [if_pos (by omega)]
theorem KG (q : List yb) (t : List y0) (l : List ya) (cs : List y7) (vs : List ye) (z : Int) (h : small q t l cs vs) : z4 (q, t, l, cs, vs, z) = some (q, t, l, cs, vs, z) := by
 obtain ⟨h1, h2, h3, h4, h5, h6⟩ := h
 unfold z4 WL zz
 simp only [KF q t h1 h2 (fun n hn => KU h3 hn), Option.bind_some, List.length_nil, List.nil_append]
 rw [if_pos (by omega)]
 simp only [Option.bind_some]
 rw [if_pos (by omega)]
 simp only [Option.bind_some]
 rw [if_pos (by omega)]
end Go.Proofs.YtjllpipmaejeoaaGreat.Pl
namespace Go.Proofs.YtjllpipmaejeoaaGreat.Pl
open Go.Proofs.YtjllpipmaejeoaaGreat.R Go.Proofs.YtjllpipmaejeoaaGreat.XU
def ybT (t : List y0) (l : List ya) (blk id : Int) : Bool × y8 := YR (Zr (yn t) blk) ((wC l id).drop 1)
theorem yaQ (ks : List y8) : YR ks [] = (false, (0, 0, 0, 0, 0)) := by
 unfold YR
 induction ks with
 | nil => rfl
 | cons a ks ih =>
  rw [List.foldl_cons, show wR [] (false, ((0 : Int), (0 : Int), (0 : Int), (0 : Int), (0 : Int))) a = (false, (0, 0, 0, 0, 0)) by
   unfold wR yfB zQ
   simp]
  exact ih
theorem y1C (q : List Int) (t : List y0) (l : List ya) (blk id : Int) (ht : TOk t) (hl : l.length ≤ 1048576) : YU (q, t, l, blk, id) = some (ans (ybT t l blk id)) := by
 unfold YU ybT
 have hp := y2b l id hl
 simp only [y0H l id hl, Option.bind_some]
 generalize wC l id = p at hp
 cases p with
 | nil =>
  rw [show List.drop 1 ([] : List Int) = [] from rfl, yaQ]
  rfl
 | cons a p =>
  have h1 : (((a :: p).length : Int) == 0) = false := by
   simp only [List.length_cons, beq_eq_false_iff_ne, ne_eq]
   omega
  have h2 : (1 : Int) ≤ ((a :: p).length : Int) := by
   simp only [List.length_cons]
   omega
  have e : ja (q, t, blk, List.drop (Int.toNat (1 : Int)) (List.take (Int.toNat ((a :: p).length : Int)) (a :: p))) = some (ans (YR (Zr (yn t) blk) (List.drop 1 (a :: p)))) := by
   rw [show Int.toNat ((a :: p).length : Int) = (a :: p).length by omega, List.take_length]
   exact y2F q t blk _ ht (by simp only [List.length_drop]; omega)
  simp only [h1, cond_false, h2, Int.le_refl, if_true, e, Option.bind_some]
  rw [if_pos (by omega)]
def y90 (vs : List ye) (id : Int) : Bool := !Ym (wS id) vs 0
theorem QT (q : List Int) (t : List y0) (l : List ya) (cs : List y7) (vs : List ye) (z id : Int) (hv : vs.length ≤ 1048576) : kv (q, t, l, cs, vs, z, id) = some (y90 vs id) := by
 unfold kv y1t y90
 refine (zP (step := Wr _ _) (fun i => (id, i, q, t, l, cs, vs, z)) (wS id) (some false) (some true) Yu vs (by omega) ?_ ?_).trans ?_
 ·intro again i h0 h1
  have hw : Go.IntKind.wrap .i64 (i + 1) = i + 1 := w64 (by omega) (by omega)
  unfold Wr wS
  have hx : vs.getD i.toNat Yu = yj vs i := rfl
  rw [hx]
  simp only [Bool.cond_eq_ite, decide_eq_true_eq, h0, h1, if_true, hw]
 ·intro again i hi
  unfold Wr
  simp only [Bool.cond_eq_ite, decide_eq_true_eq, if_neg hi]
 ·cases Ym (wS id) vs 0 <;> rfl
def k6 (q : List Int) (sp : Int) : Nat → Int
 | 0 => -1
 | n + 1 => if q.getD n 0 ≤ sp then (n : Int) else k6 q sp n
def Ju (blk age : Int) : Int := Go.IntKind.wrap .i64 (Go.IntKind.wrap .i64 ((64 : Int) * blk) + age)
theorem y5P (q : List Int) (sp : Int) : ∀ n, -1 ≤ k6 q sp n ∧ k6 q sp n < n
 | 0 => by simp [k6]
 | n + 1 => by
  have := y5P q sp n
  rw [k6]
  split <;> omega
theorem QU (q : List Int) (t : List y0) (blk age : Int) (hq : q.length ≤ 1048576) : jy (q, t, blk, age) = some (k6 q (Ju blk age) q.length) := by
 unfold jy qT
 have h := YM (step := wG (fun x2 => some x2)) (fun u : wF => q.length - u.2.2.2.1.toNat) (fun u => ∃ n : Nat, n ≤ q.length ∧ u = (blk, age, k6 q (Ju blk age) n, (n : Int), q, t)) (fun _ => some (k6 q (Ju blk age) q.length)) ?_ (blk, age, -1, 0, q, t) ⟨0, by omega, rfl⟩ (by simp; omega)
 ·exact h
 ·rintro again u ⟨n, hn, rfl⟩ hag
  have hw : Go.IntKind.wrap .i64 ((n : Int) + 1) = ((n + 1 : Nat) : Int) := by rw [w64 (by omega) (by omega)]; omega
  unfold wG JD
  have h0 : 0 ≤ (n : Int) := by omega
  by_cases hlt : (n : Int) < (q.length : Int)
  ·have hx : zu q (n : Int) = q.getD n 0 := rfl
   simp only [Bool.cond_eq_ite, decide_eq_true_eq, hlt, h0, if_true, Option.bind_some, hw, hx]
   have e := hag (blk, age, k6 q (Ju blk age) (n + 1), ((n + 1 : Nat) : Int), q, t) ⟨n + 1, by omega, rfl⟩ (by simp only; omega)
   rw [k6] at e
   unfold Ju at e ⊢
   split
   ·rename_i hc
    rw [if_pos hc] at e
    exact e
   ·rename_i hc
    rw [if_neg hc] at e
    exact e
  ·rw [show n = q.length by omega]
   simp
theorem y4c (q : List Int) (t : List y0) (blk age : Int) (hq : q.length ≤ 1048576) : ww (q, t, blk, age) = some (k6 q (Ju blk age) q.length) := by
 unfold ww qX
 rw [w64 (n := (q.length : Int) - 1) (by omega) (by omega)]
 have h := YM (step := wL (fun x2 => some x2) (fun x3 => some (-1 : Int))) (fun u : wK => (u.2.2.1 + 1).toNat) (fun u => ∃ n : Nat, n ≤ q.length ∧ u = (blk, age, (n : Int) - 1, q, t)) (fun u => some (k6 q (Ju blk age) (u.2.2.1 + 1).toNat)) ?_ (blk, age, (q.length : Int) - 1, q, t) ⟨q.length, by omega, rfl⟩ (by simp; omega)
 ·rw [h]
  simp only
  rw [show ((q.length : Int) - 1 + 1).toNat = q.length by omega]
 ·rintro again u ⟨n, hn, rfl⟩ hag
  unfold wL Z8
  cases n with
  | zero => simp [k6]
  | succ n =>
   have e1 : ((n + 1 : Nat) : Int) - 1 = (n : Int) := by omega
   have hw : Go.IntKind.wrap .i64 ((n : Int) - 1) = (n : Int) - 1 := w64 (by omega) (by omega)
   have hx : zu q (n : Int) = q.getD n 0 := rfl
   have h0 : 0 ≤ (n : Int) := by omega
   have h1 : (n : Int) < (q.length : Int) := by omega
   rw [e1]
   simp only [Bool.cond_eq_ite, decide_eq_true_eq, ge_iff_le, h0, h1, if_true, Option.bind_some, hw, hx]
   have e := hag (blk, age, (n : Int) - 1, q, t) ⟨n, by omega, rfl⟩ (by simp only; omega)
   rw [e]
   simp only
   rw [show ((n : Int) - 1 + 1).toNat = n by omega, show ((n : Int) + 1).toNat = n + 1 by omega, k6]
   unfold Ju
   split <;> rfl
abbrev Ans : Type := Int × Int × Int × Int × Int × Bool
def yaR : Ans := (0, 0, 0, 0, 0, false)
def atP (blk age : Int) (a : y8) : Bool := a.1 == blk && a.2.1 == age
def y91 (a : y8) : Ans := (a.1, a.2.1, a.2.2.1, a.2.2.2.1, a.2.2.2.2, true)
def qc (l : List y8) (blk age : Int) : Ans := if zQ (atP blk age) l 0 < 0 then yaR else y91 (y6 l (zQ (atP blk age) l 0))
theorem y1D (l : List y8) (blk age : Int) (hl : l.length ≤ 1073741824) : W0 (l, blk, age) = some (qc l blk age) := by
 unfold W0 y0D qc
 refine (Ze (step := wl _ _) (fun i => (l, blk, age, i, 0, 0, 0, 0, 0)) (atP blk age) (fun i => some (y91 (y6 l i))) (some yaR) yI l (by omega) ?_ ?_).trans ?_
 ·intro again i h0 h1
  have hw : Go.IntKind.wrap .i64 (i + 1) = i + 1 := w64 (by omega) (by omega)
  unfold wl atP y91
  obtain ⟨⟨x1, x2, x3, x4, x5⟩, hx⟩ : ∃ x, y6 l i = x := ⟨_, rfl⟩
  have hx' : l.getD i.toNat yI = (x1, x2, x3, x4, x5) := hx
  rw [hx']
  simp only [Bool.cond_eq_ite, decide_eq_true_eq, h0, h1, if_true, hw, hx]
  cases (x1 == blk) <;> cases (x2 == age) <;> rfl
 ·intro again i hi
  unfold wl
  simp only [Bool.cond_eq_ite, decide_eq_true_eq, if_neg hi]
  rfl
 ·split <;> rfl
theorem y7K (l : List y8) (blk age : Int) (hl : l.length ≤ 1073741824) : Kg (l, blk, age) = some (qc l blk age) := by
 unfold Kg y0G qc
 refine (Ze (step := wx _ _) (fun i => (blk, age, l, (l.length : Int), i, 0, 0, 0, 0, 0)) (atP blk age) (fun i => some (y91 (y6 l i))) (some yaR) yI l (by omega) ?_ ?_).trans ?_
 ·intro again i h0 h1
  have hw : Go.IntKind.wrap .i64 (i + 1) = i + 1 := w64 (by omega) (by omega)
  unfold wx atP y91
  obtain ⟨⟨x1, x2, x3, x4, x5⟩, hx⟩ : ∃ x, y6 l i = x := ⟨_, rfl⟩
  have hx' : l.getD i.toNat yI = (x1, x2, x3, x4, x5) := hx
  rw [hx']
  simp only [Bool.cond_eq_ite, decide_eq_true_eq, h0, h1, if_true, hw, hx]
  cases (x1 == blk) <;> cases (x2 == age) <;> rfl
 ·intro again i hi
  unfold wx
  simp only [Bool.cond_eq_ite, decide_eq_true_eq, if_neg hi]
  rfl
 ·split <;> rfl
def y1E (n : List y9) (blk age : Int) : Nat → Ans
 | 0 => yaR
 | m + 1 => if (qc (n.getD m z6) blk age).2.2.2.2.2 = true then (if ((qc (n.getD m z6) blk age).2.2.1 == 0) = true then yaR else qc (n.getD m z6) blk age) else y1E n blk age m
theorem y56 (n : List y9) (blk age : Int) (hn : n.length ≤ 1048576) (hs : ∀ s ∈ n, List.length s ≤ 1073741824) : Wk (n, blk, age) = some (y1E n blk age n.length) := by
 unfold Wk Qp
 rw [w64 (n := (n.length : Int) - 1) (by omega) (by omega)]
 refine (YM (step := Wj _ _) (fun u : Wi => (u.2.2.1 + 1).toNat) (fun u => ∃ m : Nat, m ≤ n.length ∧ u = (blk, age, (m : Int) - 1, n, 0, 0, 0, 0, 0)) (fun u => some (y1E n blk age (u.2.2.1 + 1).toNat)) ?_ (blk, age, (n.length : Int) - 1, n, 0, 0, 0, 0, 0) ⟨n.length, by omega, rfl⟩ (by simp; omega)).trans ?_
 ·rintro again u ⟨m, hm, rfl⟩ hag
  unfold Wj
  cases m with
  | zero => rfl
  | succ m =>
   have e1 : ((m + 1 : Nat) : Int) - 1 = (m : Int) := by omega
   have hw : Go.IntKind.wrap .i64 ((m : Int) - 1) = (m : Int) - 1 := w64 (by omega) (by omega)
   have h0 : 0 ≤ (m : Int) := by omega
   have h1 : (m : Int) < (n.length : Int) := by omega
   have e := y1D (yq n (m : Int)) blk age (hs _ (ze z6 n (m : Int) h0 h1))
   have hx : n.getD m z6 = yq n (m : Int) := rfl
   rw [e1]
   simp only [Bool.cond_eq_ite, decide_eq_true_eq, ge_iff_le, h0, h1, if_true, Option.bind_some, hw, e]
   have e' := hag (blk, age, (m : Int) - 1, n, 0, 0, 0, 0, 0) ⟨m, by omega, rfl⟩ (by simp only; omega)
   rw [e', show ((m : Int) + 1).toNat = m + 1 by omega, y1E, hx]
   simp only
   rw [show ((m : Int) - 1 + 1).toNat = m by omega]
   obtain ⟨r1, r2, r3, r4, r5, r6⟩ := qc (yq n (m : Int)) blk age
   cases r6
   ·rfl
   ·cases h3 : (r3 == 0) <;> simp [h3, yaR]
 ·simp only
  rw [show ((n.length : Int) - 1 + 1).toNat = n.length by omega]
def kQ (q : List Int) (t : List y0) (blk age : Int) : Ans :=
 if inR (k6 q (Ju blk age) q.length) 0 ((t.length : Int) - 1) = true then y1E (yf t (k6 q (Ju blk age) q.length)) blk age (yf t (k6 q (Ju blk age) q.length)).length else yaR
theorem K6 (q : List Int) (t : List y0) (blk age : Int) (ht : TOk t) (hq : q.length ≤ 1048576) : j9 (q, t, blk, age) = some (kQ q t blk age) := by
 unfold j9 kQ
 have hlen := ht.len
 rw [w64 (n := (t.length : Int) - 1) (by omega) (by omega)]
 simp only [QU q t blk age hq, Zp, Option.bind_some]
 generalize k6 q (Ju blk age) q.length = i
 by_cases h : inR i 0 ((t.length : Int) - 1) = true
 ·obtain ⟨h0, h1⟩ := zl.1 h
  have hmem : yf t i ∈ t := ze yh t i h0 (by omega)
  obtain ⟨a1, a2⟩ := ht.node hmem
  have e := y56 (yf t i) blk age a1 (fun s hs => by have := a2 s hs; omega)
  rw [h, if_pos h0, if_pos (by omega), e]
  rfl
 ·have : inR i 0 ((t.length : Int) - 1) = false := by simpa using h
  rw [this]
  rfl
end Go.Proofs.YtjllpipmaejeoaaGreat.Pl
namespace Go.Proofs.YtjllpipmaejeoaaGreat.Pl
open Go.Proofs.YtjllpipmaejeoaaGreat.R Go.Proofs.YtjllpipmaejeoaaGreat.XU
structure NS (n : List y9) : Prop where
 len : n.length ≤ 1000
 sum : WW VC n ≤ 1000
theorem NS.mem {n : List y9} (h : NS n) {s : y9} (hs : s ∈ n) : List.length s ≤ 1000 := by
 have h1 := (y0e kO hs).1
 have h2 := h.sum
 have h3 : VC s = (List.length s : Int) := rfl
 omega
theorem NS.q {n : List y9} (h : NS n) : y2U n := ⟨Nat.le_trans h.len (by decide), fun b hb => Nat.le_trans (h.mem hb) (by decide)⟩
theorem NS.keys {n : List y9} (h : NS n) : (yA n).length ≤ 1000 := by
 have h1 := Ki n
 have h2 := h.sum
 omega
def JV (n : List y9) : y9 := n.getD (n.length - 1) z6
theorem y1F {n : List y9} (h : 0 < n.length) : JV n ∈ n := by
 unfold JV
 rw [zd _ _ _ (by omega)]
 exact List.getElem_mem _
def Jv (n : List y9) (k : y8) : List y9 :=
 if 0 < n.length ∧ (List.length (JV n) < 4 ∨ (qc (JV n) k.1 k.2.1).2.2.2.2.2 = true) then n.set (n.length - 1) (zT (JV n) k) else n ++ [[k]]
def Y3 (n : List y9) (k : y8) : List y8 := ka (zT (yA n) k)
def zg (n : List y9) (k : y8) : List y9 × Bool :=
 if Yn (Jv n k) = true then (Jv n k, true) else if (Y3 n k).length > 8 then (n, false) else if Yn (yK (Y3 n k)) = true then (yK (Y3 n k), true) else (n, false)
theorem yf4 (l : List y8) : (ka l).length ≤ l.length := by
 have := y41 l []
 simpa [ka] using this
theorem y1G (n : List y9) (k : y8) : (Y3 n k).length ≤ (yA n).length + 1 := by
 have h1 := yf4 (zT (yA n) k)
 have h2 := W4 (yA n) k
 unfold Y3
 omega
theorem Jw (l : List y8) (h : l.length ≤ 1048576) : yS l = some (yK l) := by
 unfold yS yK
 by_cases h0 : l.length = 0
 ·rw [if_pos h0, show (((List.length l : Nat) : Int) == 0) = true from beq_iff_eq.2 (by omega)]
  rfl
 ·rw [if_neg h0, show (((List.length l : Nat) : Int) == 0) = false from beq_eq_false_iff_ne.2 (by omega), cond_false, if_pos (by simp only [List.length_nil]; omega)]
  rfl
theorem Jx (l : List y8) (h : l.length ≤ 1048576) : zm l = some (yK l) := by
 unfold zm yK
 by_cases h0 : l.length = 0
 ·rw [if_pos h0, show (((List.length l : Nat) : Int) == 0) = true from beq_iff_eq.2 (by omega)]
  rfl
 ·rw [if_neg h0, show (((List.length l : Nat) : Int) == 0) = false from beq_eq_false_iff_ne.2 (by omega), cond_false, KD l h]
  rfl
theorem y0j {l : List y8} (h : l.length ≤ 1000) : NS (yK l) := by
 unfold yK
 split
 ·exact ⟨by simp, by simp [WW]⟩
 ·exact ⟨by simp, by simp [WW, VC]; omega⟩
theorem y4d (l : List y8) : (yK l).length ≤ 1 ∧ WW VC (yK l) ≤ l.length := by
 unfold yK
 split
 ·exact ⟨by simp, by simp [WW]⟩
 ·exact ⟨by simp, by simp [WW, VC]⟩
theorem yly {n : List y9} (i : Nat) (s : y9) (hi : i < n.length) : WW VC (n.set i s) = WW VC n - VC (n.getD i z6) + VC s := by
 induction n generalizing i with
 | nil => simp at hi
 | cons a n ih =>
  cases i with
  | zero =>
   rw [List.set_cons_zero, Y7, Y7]
   simp
   omega
  | succ i =>
   rw [List.set_cons_succ, Y7, Y7, ih i (by simpa using hi), List.getD_cons_succ]
   omega
theorem yf5 {A : Type} (w : A → Int) (l : List A) (a : A) : WW w (l ++ [a]) = WW w l + w a := by
 induction l with
 | nil => simp [WW]
 | cons b l ih =>
  rw [List.cons_append, Y7, Y7, ih]
  omega
theorem y2e (n : List y9) (k : y8) : (Jv n k).length ≤ n.length + 1 ∧ WW VC (Jv n k) ≤ WW VC n + 1 := by
 unfold Jv
 split
 ·rename_i h
  have h1 := W4 (JV n) k
  have h2 : VC (zT (JV n) k) ≤ VC (JV n) + 1 := by
   unfold VC
   have : List.length (zT (JV n) k) ≤ List.length (JV n) + 1 := h1
   omega
  rw [List.length_set, yly _ _ (by omega)]
  have e : n.getD (n.length - 1) z6 = JV n := rfl
  rw [e]
  constructor <;> omega
 ·rw [yf5, List.length_append]
  have e : VC [k] = 1 := rfl
  rw [e]
  exact ⟨Nat.le_refl _, Int.le_refl _⟩
theorem NS.small {n : List y9} (h1 : n.length ≤ 1001) (h2 : WW VC n ≤ 1001) : n.length ≤ 1073741824 ∧ ∀ s ∈ n, List.length s ≤ 1073741824 := by
 refine ⟨by omega, fun s hs => ?_⟩
 have h3 := (y0e kO hs).1
 have h4 : VC s = (List.length s : Int) := rfl
 omega
section
variable (n : List y9) (a b c d e : Int) (h : NS n)
include h
theorem y4e : wm (n, a, b, c, d, e) = some (zg n (a, b, c, d, e)) := by
 have hk := h.keys
 have hl := h.len
 have hs := h.sum
 have hW := y1G n (a, b, c, d, e)
 have hN := y4d (Y3 n (a, b, c, d, e))
 have hN2 := NS.small (n := yK (Y3 n (a, b, c, d, e))) (by omega) (by omega)
 have hO := y2e n (a, b, c, d, e)
 have hO2 := NS.small (n := Jv n (a, b, c, d, e)) (by omega) (by omega)
 have hw : Go.IntKind.wrap .i64 ((n.length : Int) - 1) = (n.length : Int) - 1 := w64 (by omega) (by omega)
 have hT : ∀ out, out = Jv n (a, b, c, d, e) → (Option.bind (zp out) fun r6 => bif r6 then some (out, true) else Option.bind (yD n) fun r7 => Option.bind (zB (r7, a, b, c, d, e)) fun r8 => Option.bind (zW r8) fun r9 => bif (decide (((List.length r9 : Nat) : Int) > (8 : Int))) then some (n, false) else Option.bind (yS r9) fun r11 => Option.bind (zp r11) fun r12 => bif (!r12) then some (n, false) else Option.bind (yS r9) fun r14 => some (r14, true)) = some (zg n (a, b, c, d, e)) := by
  rintro out rfl
  have e1 : zW (zT (yA n) (a, b, c, d, e)) = some (Y3 n (a, b, c, d, e)) := QO _ (by have := W4 (yA n) (a, b, c, d, e); omega)
  simp only [Vr _ hO2.1 hO2.2, YW n (by omega) (by omega), K3 (yA n) a b c d e (by omega), e1, Jw (Y3 n (a, b, c, d, e)) (by omega), Vr _ hN2.1 hN2.2, Option.bind_some]
  unfold zg
  cases Yn (Jv n (a, b, c, d, e)) with
  | true => rfl
  | false =>
   by_cases h8 : (Y3 n (a, b, c, d, e)).length > 8
   ·rw [decide_eq_true (show ((List.length (Y3 n (a, b, c, d, e)) : Nat) : Int) > 8 by omega), if_pos h8]
    rfl
   ·rw [decide_eq_false (show ¬ ((List.length (Y3 n (a, b, c, d, e)) : Nat) : Int) > 8 by omega), if_neg h8]
    cases Yn (yK (Y3 n (a, b, c, d, e))) <;> rfl
 unfold wm
 simp only [Vw n h.q, Option.bind_some, hw]
 by_cases h0 : n.length = 0
 ·have e1 : ¬ (0 < n.length ∧ (List.length (JV n) < 4 ∨ (qc (JV n) a b).2.2.2.2.2 = true)) := fun hh => by omega
  simp only [decide_eq_false (show ¬ ((n.length : Int) - 1 ≥ 0) by omega), cond_false, Option.bind_some]
  rw [if_pos (by simp only [List.length_cons, List.length_nil]; omega)]
  exact hT _ (by unfold Jv; rw [if_neg e1])
 ·have i0 : 0 ≤ (n.length : Int) - 1 := by omega
  have i1 : (n.length : Int) - 1 < ((List.length n : Nat) : Int) := by omega
  have hlm := h.mem (y1F (n := n) (by omega))
  have erd : yq n ((n.length : Int) - 1) = JV n := by
   show n.getD ((n.length : Int) - 1).toNat z6 = n.getD (n.length - 1) z6
   congr 1
   omega
  have etn : ((n.length : Int) - 1).toNat = n.length - 1 := by omega
  rw [decide_eq_true (show (n.length : Int) - 1 ≥ 0 from i0)]
  simp only [cond_true, i0, i1, if_true, erd, etn, y1D (JV n) a b (by omega), K3 (JV n) a b c d e (by omega), Option.bind_some]
  by_cases h4 : List.length (JV n) < 4
  ·rw [decide_eq_true (show ((List.length (JV n) : Nat) : Int) < 4 by omega)]
   exact hT _ (by unfold Jv; rw [if_pos ⟨by omega, .inl h4⟩])
  ·rw [decide_eq_false (show ¬ ((List.length (JV n) : Nat) : Int) < 4 by omega)]
   cases hA : (qc (JV n) a b).2.2.2.2.2 with
   | true => exact hT _ (by unfold Jv; rw [if_pos ⟨by omega, .inr hA⟩])
   | false =>
    simp only [cond_false, Option.bind_some]
    rw [if_pos (by simp only [List.length_cons, List.length_nil]; omega)]
    exact hT _ (by
     unfold Jv
     rw [if_neg fun hh => ?_]
     rcases hh.2 with hh | hh
     ·exact h4 hh
     ·rw [hA] at hh
      cases hh)
theorem Q0 : zO (n, a, b, c, d, e) = some (Y3 n (a, b, c, d, e)) := by
 have hk := h.keys
 have hl := h.len
 have hs := h.sum
 have e1 : Jd (zT (yA n) (a, b, c, d, e)) = some (Y3 n (a, b, c, d, e)) := y2E _ (by have := W4 (yA n) (a, b, c, d, e); omega)
 unfold zO
 simp only [ju n (by omega) (by omega), Vq (yA n) a b c d e (by omega), e1, Option.bind_some]
theorem y4f : wy (n, a, b, c, d, e) = some (zg n (a, b, c, d, e)) := by
 have hk := h.keys
 have hl := h.len
 have hs := h.sum
 have hW := y1G n (a, b, c, d, e)
 have hN := y4d (Y3 n (a, b, c, d, e))
 have hN2 := NS.small (n := yK (Y3 n (a, b, c, d, e))) (by omega) (by omega)
 have hO := y2e n (a, b, c, d, e)
 have hO2 := NS.small (n := Jv n (a, b, c, d, e)) (by omega) (by omega)
 have hw : Go.IntKind.wrap .i64 ((n.length : Int) - 1) = (n.length : Int) - 1 := w64 (by omega) (by omega)
 have hT : ∀ out, out = Jv n (a, b, c, d, e) → (Option.bind (zE out) fun r5 => bif r5 then some (out, true) else Option.bind (zO (n, a, b, c, d, e)) fun r6 => Option.bind (zm r6) fun r7 => Option.bind (bif (decide (((List.length r6 : Nat) : Int) > (8 : Int))) then some true else Option.bind (zE r7) fun r9 => some (!r9)) fun u8 => bif u8 then some (n, false) else some (r7, true)) = some (zg n (a, b, c, d, e)) := by
  rintro out rfl
  simp only [Vs _ hO2.1 hO2.2, Q0 n a b c d e h, Jx (Y3 n (a, b, c, d, e)) (by omega), Vs _ hN2.1 hN2.2, Option.bind_some]
  unfold zg
  cases Yn (Jv n (a, b, c, d, e)) with
  | true => rfl
  | false =>
   by_cases h8 : (Y3 n (a, b, c, d, e)).length > 8
   ·rw [decide_eq_true (show ((List.length (Y3 n (a, b, c, d, e)) : Nat) : Int) > 8 by omega), if_pos h8]
    rfl
   ·rw [decide_eq_false (show ¬ ((List.length (Y3 n (a, b, c, d, e)) : Nat) : Int) > 8 by omega), if_neg h8]
    cases Yn (yK (Y3 n (a, b, c, d, e))) <;> rfl
 unfold wy
 simp only [KE n h.q, Option.bind_some, hw]
 by_cases h0 : n.length = 0
 ·have e1 : ¬ (0 < n.length ∧ (List.length (JV n) < 4 ∨ (qc (JV n) a b).2.2.2.2.2 = true)) := fun hh => by omega
  simp only [decide_eq_false (show ¬ ((n.length : Int) - 1 ≥ 0) by omega), cond_false, Option.bind_some]
  rw [if_pos (by simp only [List.length_cons, List.length_nil]; omega)]
  exact hT _ (by unfold Jv; rw [if_neg e1])
 ·have i0 : 0 ≤ (n.length : Int) - 1 := by omega
  have i1 : (n.length : Int) - 1 < ((List.length n : Nat) : Int) := by omega
  have hlm := h.mem (y1F (n := n) (by omega))
  have erd : yq n ((n.length : Int) - 1) = JV n := by
   show n.getD ((n.length : Int) - 1).toNat z6 = n.getD (n.length - 1) z6
   congr 1
   omega
  have etn : ((n.length : Int) - 1).toNat = n.length - 1 := by omega
  rw [decide_eq_true (show (n.length : Int) - 1 ≥ 0 from i0)]
  simp only [cond_true, i0, i1, if_true, erd, etn, y7K (JV n) a b (by omega), Vq (JV n) a b c d e (by omega), Option.bind_some]
  cases hA : (qc (JV n) a b).2.2.2.2.2 with
  | true => exact hT _ (by unfold Jv; rw [if_pos ⟨by omega, .inr hA⟩])
  | false =>
   by_cases h4 : List.length (JV n) < 4
   ·rw [decide_eq_true (show ((List.length (JV n) : Nat) : Int) < 4 by omega)]
    exact hT _ (by unfold Jv; rw [if_pos ⟨by omega, .inl h4⟩])
   ·rw [decide_eq_false (show ¬ ((List.length (JV n) : Nat) : Int) < 4 by omega)]
    simp only [cond_false, Option.bind_some]
    rw [if_pos (by simp only [List.length_cons, List.length_nil]; omega)]
    exact hT _ (by
     unfold Jv
     rw [if_neg fun hh => ?_]
     rcases hh.2 with hh | hh
     ·exact h4 hh
     ·rw [hA] at hh
      cases hh)
end
end Go.Proofs.YtjllpipmaejeoaaGreat.Pl
namespace Go.Proofs.YtjllpipmaejeoaaGreat.Pl
open Go.Proofs.YtjllpipmaejeoaaGreat.R Go.Proofs.YtjllpipmaejeoaaGreat.XU
structure TS (t : List y0) : Prop where
 len : t.length ≤ 100
 node : ∀ n ∈ t, NS n
theorem TS.ok {t : List y0} (h : TS t) : TOk t := by
 have hl := h.len
 refine ⟨by omega, fun n hn => Nat.le_trans (h.node n hn).len (by decide), ?_⟩
 have hb : ∀ (t : List y0), (∀ n ∈ t, NS n) → WW Q2 t ≤ 2000 * t.length := by
  intro t
  induction t with
  | nil => intro _; simp [WW]
  | cons a t ih =>
   intro hn
   have h1 := ih fun n h => hn n (by simp [h])
   have h2 := hn a (by simp)
   have h3 : Q2 a = (List.length a : Int) + WW VC a := rfl
   have h4 : List.length a ≤ 1000 := h2.len
   have h5 : WW VC a ≤ 1000 := h2.sum
   rw [Y7, List.length_cons]
   omega
 have := hb t h.node
 omega
def yV {A : Type} (l : List A) (i c : Nat) (m : List A) : List A := l.take i ++ m ++ l.drop (i + c)
theorem Yq {A : Type} (l : List A) (i c : Nat) (m : List A) (h : i + c ≤ l.length) : (yV l i c m).length = l.length + m.length - c := by
 unfold yV
 simp only [List.length_append, List.length_take, List.length_drop]
 omega
theorem yd8 {A : Type} {l : List A} {i c : Nat} {m : List A} {x : A} (h : x ∈ yV l i c m) : x ∈ l ∨ x ∈ m := by
 unfold yV at h
 rcases List.mem_append.1 h with h | h
 ·rcases List.mem_append.1 h with h | h
  ·exact .inl (List.mem_of_mem_take h)
  ·exact .inr h
 ·exact .inl (List.mem_of_mem_drop h)
theorem y0k {A : Type} (l : List A) (i : Nat) (x : A) (h : i < l.length) : yV l i 1 [x] = l.set i x := by
 unfold yV
 rw [List.set_eq_take_append_cons_drop, if_pos h]
 simp
theorem yd9 {A : Type} (d : A) (l : List A) (i : Nat) (h : i + 2 ≤ l.length) : yV l i 2 [l.getD i d] = l.take (i + 1) ++ l.drop (i + 2) := by
 unfold yV
 rw [zd _ _ _ (by omega), List.take_succ_eq_append_getElem (by omega)]
theorem TS.splice {t : List y0} (h : TS t) {i c : Nat} {m : List y0} (hl : (yV t i c m).length ≤ 100) (hm : ∀ n ∈ m, NS n) : TS (yV t i c m) :=
 ⟨hl, fun n hn => (yd8 hn).elim (h.node n) (hm n)⟩
theorem qD (q : List Int) (t : List y0) (i : Int) (ql : List Int) (tl : List y0) (h0 : 0 ≤ i) (h1 : i < (q.length : Int)) (h2 : i < (t.length : Int)) (hq : q.length ≤ 1000) (ht : t.length ≤ 1000) (hql : ql.length ≤ 1000) (htl : tl.length ≤ 1000) :
  jZ (q, t, i, ql, tl) = some (yV q i.toNat 1 ql, yV t i.toNat 1 tl) := by
 have hw : Go.IntKind.wrap .i64 (i + 1) = i + 1 := w64 (by omega) (by omega)
 have e1 : (i + 1).toNat = i.toNat + 1 := by omega
 unfold jZ
 simp only [hw]
 iterate 18 rw [if_pos (by first | omega | (simp only [List.length_append, List.length_drop, List.length_take, List.length_nil]; omega))]
 simp [yV, e1]
theorem KH (q : List Int) (t : List y0) (i c : Int) (ql : List Int) (tl : List y0) (h0 : 0 ≤ i) (hc : 0 ≤ c) (h1 : i + c ≤ (q.length : Int)) (h2 : i + c ≤ (t.length : Int)) (hq : q.length ≤ 1000) (ht : t.length ≤ 1000) (hql : ql.length ≤ 1000) (htl : tl.length ≤ 1000) :
  Y1 (q, t, i, c, ql, tl) = some (yV q i.toNat c.toNat ql, yV t i.toNat c.toNat tl) := by
 have hw : Go.IntKind.wrap .i64 (i + c) = i + c := w64 (by omega) (by omega)
 have e1 : (i + c).toNat = i.toNat + c.toNat := by omega
 have e2 : List.drop (Int.toNat 0) (List.take (Int.toNat i) q) = q.take i.toNat := rfl
 unfold Y1
 simp only [hw]
 iterate 3 rw [if_pos (by omega)]
 rw [e2, qZ _ (by rw [List.length_take]; omega)]
 simp only [Option.bind_some]
 iterate 14 rw [if_pos (by first | omega | (simp only [List.length_append, List.length_drop, List.length_take, List.length_nil]; omega))]
 simp [yV, e1]
def yE : List y0 → Int → Int
 | a :: b :: r, i => if (yA a).length + (yA b).length ≤ 6 then i else yE (b :: r) (i + 1)
 | _, _ => -1
theorem y0Z (l : List y0) (i : Int) (h : l.length ≤ 1) : yE l i = -1 := by
 match l, h with
 | [], _ => rfl
 | [_], _ => rfl
theorem y2f : ∀ (l : List y0) (i : Int), yE l i = -1 ∨ i ≤ yE l i ∧ yE l i + 2 ≤ i + l.length ∧ (yA (l.getD (yE l i - i).toNat yh)).length + (yA (l.getD (yE l i - i + 1).toNat yh)).length ≤ 6
 | [], _ => .inl rfl
 | [_], _ => .inl rfl
 | a :: b :: r, i => by
  rw [yE]
  by_cases h : (yA a).length + (yA b).length ≤ 6
  ·rw [if_pos h]
   refine .inr ⟨Int.le_refl _, by simp only [List.length_cons]; omega, ?_⟩
   rw [show (i - i).toNat = 0 by omega, show (i - i + 1).toNat = 1 by omega]
   exact h
  ·rw [if_neg h]
   rcases y2f (b :: r) (i + 1) with h1 | ⟨h1, h2, h3⟩
   ·exact .inl h1
   ·refine .inr ⟨by omega, by simp only [List.length_cons] at h2 ⊢; omega, ?_⟩
    rw [show (yE (b :: r) (i + 1) - i).toNat = (yE (b :: r) (i + 1) - (i + 1)).toNat + 1 by omega, show (yE (b :: r) (i + 1) - i + 1).toNat = (yE (b :: r) (i + 1) - (i + 1) + 1).toNat + 1 by omega, List.getD_cons_succ, List.getD_cons_succ]
    exact h3
theorem ybU (t : List y0) (i : Int) (h0 : 0 ≤ i) (h1 : i + 1 < (t.length : Int)) : yE (t.drop i.toNat) i = if (yA (yf t i)).length + (yA (yf t (i + 1))).length ≤ 6 then i else yE (t.drop (i + 1).toNat) (i + 1) := by
 rw [wB yh t i h0 (by omega), wB yh t (i + 1) (by omega) h1, yE]
 rfl
theorem nk {t : List y0} (h : TS t) {i : Int} (h0 : 0 ≤ i) (h1 : i < (t.length : Int)) : NS (yf t i) := h.node _ (ze yh t i h0 h1)
theorem vT {t : List y0} (h : TS t) {i : Int} (h0 : 0 ≤ i) (h1 : i < (t.length : Int)) : yD (yf t i) = some (yA (yf t i)) := by
 have hn := nk h h0 h1
 exact YW _ (Nat.le_trans hn.len (by decide)) (Int.le_trans hn.sum (by decide))
theorem y10 {t : List y0} (h : TS t) {i : Int} (h0 : 0 ≤ i) (h1 : i < (t.length : Int)) : yN (yf t i) = some (yA (yf t i)) := by
 have hn := nk h h0 h1
 exact ju _ (Nat.le_trans hn.len (by decide)) (Int.le_trans hn.sum (by decide))
theorem y2G (q : List Int) (t : List y0) (h : TS t) : JJ (q, t) = some (yE t 0) := by
 have hl := h.len
 unfold JJ Qq
 refine YM (step := Wl _ _) (fun x : Int × List Int × List y0 => t.length - x.1.toNat) (fun x => x.2.2 = t ∧ 0 ≤ x.1 ∧ x.1 ≤ (t.length : Int)) (fun x => some (yE (t.drop x.1.toNat) x.1)) ?_ (0, q, t) ⟨rfl, Int.le_refl _, by simp⟩ (by simp; omega)
 rintro again ⟨i, q', t'⟩ ⟨rfl, i0, i1⟩ hag
 simp only at i0 i1 hl h ⊢
 unfold Wl
 by_cases hi : i + 1 < (t'.length : Int)
 ·have hw : Go.IntKind.wrap .i64 (i + 1) = i + 1 := w64 (by omega) (by omega)
  have k1 := nk h i0 (show i < (t'.length : Int) by omega)
  have k2 := nk h (show 0 ≤ i + 1 by omega) hi
  have hw2 : Go.IntKind.wrap .i64 (((List.length (yA (yf t' i)) : Nat) : Int) + ((List.length (yA (yf t' (i + 1))) : Nat) : Int)) = ((List.length (yA (yf t' i)) : Nat) : Int) + ((List.length (yA (yf t' (i + 1))) : Nat) : Int) := w64 (by omega) (by have := k1.keys; have := k2.keys; omega)
  simp only [hw, vT h i0 (show i < (t'.length : Int) by omega), vT h (show 0 ≤ i + 1 by omega) hi, Option.bind_some, hw2]
  rw [decide_eq_true hi, cond_true, if_pos i0, if_pos (by omega), if_pos (by omega), if_pos hi, ybU t' i i0 hi]
  by_cases h6 : (yA (yf t' i)).length + (yA (yf t' (i + 1))).length ≤ 6
  ·rw [decide_eq_true (show ((List.length (yA (yf t' i)) : Nat) : Int) + ((List.length (yA (yf t' (i + 1))) : Nat) : Int) ≤ 6 by omega), if_pos h6]
   rfl
  ·rw [decide_eq_false (show ¬ ((List.length (yA (yf t' i)) : Nat) : Int) + ((List.length (yA (yf t' (i + 1))) : Nat) : Int) ≤ 6 by omega), if_neg h6]
   exact hag _ ⟨rfl, by simp only; omega, by simp only; omega⟩ (by simp only; omega)
 ·have hw : ¬ Go.IntKind.wrap .i64 (i + 1) < (t'.length : Int) := by
   rw [w64 (by omega) (by omega)]
   exact hi
  rw [decide_eq_false hw, y0Z _ _ (by rw [List.length_drop]; omega)]
  rfl
def ZV : Nat → List Int → List y0 → List Int × List y0
 | 0, q, t => (q, t)
 | m + 1, q, t => if yE t 0 < 0 then (q, t) else ZV m (yV q (yE t 0).toNat 2 [q.getD (yE t 0).toNat 0]) (yV t (yE t 0).toNat 2 [yK (yA (t.getD (yE t 0).toNat yh) ++ yA (t.getD (yE t 0 + 1).toNat yh))])
section
variable {q : List Int} {t : List y0} (h : TS t) (hq : q.length = t.length) (hp : ¬ yE t 0 < 0)
include h hp
omit h in
theorem y2g : 0 ≤ yE t 0 ∧ yE t 0 + 2 ≤ (t.length : Int) ∧ (yA (yf t (yE t 0))).length + (yA (yf t (yE t 0 + 1))).length ≤ 6 := by
 rcases y2f t 0 with h1 | ⟨h1, h2, h3⟩
 ·omega
 ·refine ⟨h1, by omega, ?_⟩
  rw [Int.sub_zero] at h3
  exact h3
theorem yaS : TS (yV t (yE t 0).toNat 2 [yK (yA (yf t (yE t 0)) ++ yA (yf t (yE t 0 + 1)))]) := by
 obtain ⟨h1, h2, h3⟩ := y2g hp
 have hl := h.len
 refine h.splice (by rw [Yq _ _ _ _ (by omega)]; simp only [List.length_cons, List.length_nil]; omega) fun n hn => ?_
 obtain rfl := List.mem_singleton.1 hn
 exact y0j (by rw [List.length_append]; omega)
include hq
theorem ybV : (yV t (yE t 0).toNat 2 [yK (yA (yf t (yE t 0)) ++ yA (yf t (yE t 0 + 1)))]).length = t.length - 1 ∧ (yV q (yE t 0).toNat 2 [q.getD (yE t 0).toNat 0]).length = t.length - 1 := by
 obtain ⟨h1, h2, h3⟩ := y2g hp
 rw [Yq _ _ _ _ (by omega), Yq _ _ _ _ (by omega)]
 simp only [List.length_cons, List.length_nil]
 omega
theorem y5Q : ZV t.length q t = ZV (t.length - 1) (yV q (yE t 0).toNat 2 [q.getD (yE t 0).toNat 0]) (yV t (yE t 0).toNat 2 [yK (yA (yf t (yE t 0)) ++ yA (yf t (yE t 0 + 1)))]) := by
 obtain ⟨h1, h2, h3⟩ := y2g hp
 rw [show t.length = (t.length - 1) + 1 by omega, ZV, if_neg hp]
 rfl
end
theorem y92 {q : List Int} {t : List y0} (m : Nat) (hp : yE t 0 < 0) : ZV m q t = (q, t) := by
 cases m with
 | zero => rfl
 | succ m => rw [ZV, if_pos hp]
theorem y93 (q : List Int) (t : List y0) (h : TS t) (hq : q.length = t.length) : Z2 (q, t) = some (ZV t.length q t) := by
 have hl := h.len
 unfold Z2 Qr
 simp only [y2G q t h, Option.bind_some]
 refine YM (step := Wm _) (fun x : Int × List Int × List y0 => x.2.2.length) (fun x => TS x.2.2 ∧ x.2.1.length = x.2.2.length ∧ x.1 = yE x.2.2 0) (fun x => some (ZV x.2.2.length x.2.1 x.2.2)) ?_ (yE t 0, q, t) ⟨h, hq, rfl⟩ (by simp only; omega)
 rintro again ⟨i, q, t⟩ ⟨h, hq, hi⟩ hag
 simp only at h hq hi ⊢
 subst hi
 have hl := h.len
 unfold Wm
 by_cases hp : yE t 0 < 0
 ·rw [decide_eq_false (show ¬ yE t 0 ≥ 0 by omega), y92 _ hp]
  rfl
 ·obtain ⟨h1, h2, h3⟩ := y2g hp
  have hw : Go.IntKind.wrap .i64 (yE t 0 + 1) = yE t 0 + 1 := w64 (by omega) (by omega)
  have hw2 : Go.IntKind.wrap .i64 (yE t 0 + 2) = yE t 0 + 2 := w64 (by omega) (by omega)
  have hT := yaS h hp
  have hL := ybV h hq hp
  have eq1 : ([] ++ List.drop (Int.toNat 0) (List.take (Int.toNat (yE t 0 + 1)) q)) ++ List.drop (Int.toNat (yE t 0 + 2)) (List.take (Int.toNat (q.length : Int)) q) = yV q (yE t 0).toNat 2 [q.getD (yE t 0).toNat 0] := by
   rw [yd9 0 q _ (by omega), show (yE t 0 + 1).toNat = (yE t 0).toNat + 1 by omega, show (yE t 0 + 2).toNat = (yE t 0).toNat + 2 by omega]
   simp
  have eq2 : ∀ n : y0, (([] ++ List.drop (Int.toNat 0) (List.take (Int.toNat (yE t 0)) t)) ++ [n]) ++ List.drop (Int.toNat (yE t 0 + 2)) (List.take (Int.toNat (t.length : Int)) t) = yV t (yE t 0).toNat 2 [n] := fun n => by
   rw [show (yE t 0 + 2).toNat = (yE t 0).toNat + 2 by omega]
   simp [yV]
  simp only [hw, hw2, vT h h1 (show yE t 0 < (t.length : Int) by omega), vT h (show 0 ≤ yE t 0 + 1 by omega) (show yE t 0 + 1 < (t.length : Int) by omega), Jw (yA (yf t (yE t 0)) ++ yA (yf t (yE t 0 + 1))) (by rw [List.length_append]; omega), Option.bind_some, eq1, eq2, y2G _ _ hT]
  rw [decide_eq_true (show yE t 0 ≥ 0 from h1), cond_true]
  iterate 22 rw [if_pos (by first | omega | (simp only [List.length_append, List.length_drop, List.length_take, List.length_nil, List.length_cons]; omega))]
  rw [y5Q h hq hp, ← hL.1]
  exact hag (yE (yV t (yE t 0).toNat 2 [yK (yA (yf t (yE t 0)) ++ yA (yf t (yE t 0 + 1)))]) 0, yV q (yE t 0).toNat 2 [q.getD (yE t 0).toNat 0], yV t (yE t 0).toNat 2 [yK (yA (yf t (yE t 0)) ++ yA (yf t (yE t 0 + 1)))]) ⟨hT, hL.2.trans hL.1.symm, rfl⟩ (by simp only; omega)
theorem y57 (q : List Int) (t : List y0) (h : TS t) (hq : q.length = t.length) : Zb (q, t) = some (ZV t.length q t) := by
 have hl := h.len
 unfold Zb QH
 have key : ∀ (i : Int) (q : List Int) (t : List y0) (k1 k2 : Int × List Int × List y0 → Option (List Int × List y0)), TS t → q.length = t.length → 0 ≤ i → i ≤ (t.length : Int) → yE t 0 = yE (t.drop i.toNat) i →
   (∀ i' q' t', TS t' → q'.length = t'.length → 0 ≤ i' → i' ≤ (t'.length : Int) → yE t' 0 = yE (t'.drop i'.toNat) i' → t'.length * 1000 + (t'.length - i'.toNat) < t.length * 1000 + (t.length - i.toNat) → k1 (i', q', t') = some (ZV t'.length q' t') ∧ k2 (i', q', t') = some (ZV t'.length q' t')) →
   (bif (decide ((Go.IntKind.wrap .i64 (i + (1 : Int))) < ((List.length t : Nat) : Int))) then if (0 : Int) ≤ i then if i < ((List.length t : Nat) : Int) then Option.bind (yN (yf t i)) fun r5 => if (0 : Int) ≤ (Go.IntKind.wrap .i64 (i + (1 : Int))) then if (Go.IntKind.wrap .i64 (i + (1 : Int))) < ((List.length t : Nat) : Int) then Option.bind (yN (yf t (Go.IntKind.wrap .i64 (i + (1 : Int))))) fun r6 => if (List.length r5 + List.length r6) * 40 < 140737488355328 then bif (decide (((List.length (r5 ++ r6) : Nat) : Int) ≤ (6 : Int))) then if (0 : Int) ≤ i then if i < ((List.length q : Nat) : Int) then Option.bind (zm (r5 ++ r6)) fun r7 => Option.bind (Y1 (q, t, i, (2 : Int), ([(zu q i)] : List yb), ([r7] : List y0))) fun r8 => k1 ((Go.IntKind.wrap .i64 ((-1 : Int) + (1 : Int))), r8.1, r8.2) else none else none else k2 ((Go.IntKind.wrap .i64 (i + (1 : Int))), q, t) else none else none else none else none else none else some (q, t)) = some (ZV t.length q t) := by
  intro i q t k1 k2 h hq i0 i1 hpi hk
  have hl := h.len
  have hw : Go.IntKind.wrap .i64 (i + 1) = i + 1 := w64 (by omega) (by omega)
  have hw0 : Go.IntKind.wrap .i64 (-1 + 1) = 0 := rfl
  simp only [hw, hw0]
  by_cases hi : i + 1 < (t.length : Int)
  ·have g1 := (nk h i0 (show i < (t.length : Int) by omega)).keys
   have g2 := (nk h (show 0 ≤ i + 1 by omega) hi).keys
   rw [ybU t i i0 hi] at hpi
   simp only [y10 h i0 (show i < (t.length : Int) by omega), y10 h (show 0 ≤ i + 1 by omega) hi, Option.bind_some]
   rw [decide_eq_true hi, cond_true, if_pos i0, if_pos (by omega), if_pos (by omega), if_pos hi, if_pos (by omega)]
   by_cases h6 : (yA (yf t i)).length + (yA (yf t (i + 1))).length ≤ 6
   ·rw [if_pos h6] at hpi
    subst hpi
    have hp : ¬ yE t 0 < 0 := by omega
    have hT := yaS h hp
    have hL := ybV h hq hp
    rw [decide_eq_true (show ((List.length (yA (yf t (yE t 0)) ++ yA (yf t (yE t 0 + 1))) : Nat) : Int) ≤ 6 by rw [List.length_append]; omega), cond_true, if_pos i0, if_pos (by omega), Jx _ (by rw [List.length_append]; omega)]
    simp only [Option.bind_some]
    rw [KH q t _ 2 _ _ i0 (by decide) (by omega) (by omega) (by omega) (by omega) (by simp) (by simp)]
    simp only [Option.bind_some]
    rw [y5Q h hq hp, ← hL.1]
    exact (hk 0 (yV q (yE t 0).toNat 2 [q.getD (yE t 0).toNat 0]) (yV t (yE t 0).toNat 2 [yK (yA (yf t (yE t 0)) ++ yA (yf t (yE t 0 + 1)))]) hT (hL.2.trans hL.1.symm) (Int.le_refl _) (by omega) rfl (by omega)).1
   ·rw [if_neg h6] at hpi
    rw [decide_eq_false (show ¬ ((List.length (yA (yf t i) ++ yA (yf t (i + 1))) : Nat) : Int) ≤ 6 by rw [List.length_append]; omega), cond_false]
    exact (hk (i + 1) q t h hq (by omega) (by omega) hpi (by omega)).2
  ·rw [y0Z (t.drop i.toNat) i (by rw [List.length_drop]; omega)] at hpi
   rw [decide_eq_false hi, y92 _ (by omega)]
   rfl
 refine YM (step := vL _ _) (fun x : (Int × List Int × List y0) ⊕ (Int × List Int × List y0) => (Sum.elim id id x).2.2.length * 1000 + ((Sum.elim id id x).2.2.length - (Sum.elim id id x).1.toNat)) (fun x => TS (Sum.elim id id x).2.2 ∧ (Sum.elim id id x).2.1.length = (Sum.elim id id x).2.2.length ∧ 0 ≤ (Sum.elim id id x).1 ∧ (Sum.elim id id x).1 ≤ ((Sum.elim id id x).2.2.length : Int) ∧ yE (Sum.elim id id x).2.2 0 = yE ((Sum.elim id id x).2.2.drop (Sum.elim id id x).1.toNat) (Sum.elim id id x).1)
  (fun x => some (ZV (Sum.elim id id x).2.2.length (Sum.elim id id x).2.1 (Sum.elim id id x).2.2)) ?_ (Sum.inl (0, q, t)) ⟨h, hq, Int.le_refl _, by simp, rfl⟩ (by simp; omega)
 rintro again (⟨i, q, t⟩ | ⟨i, q, t⟩) ⟨h, hq, i0, i1, hpi⟩ hag
 ·exact key i q t (fun x => again (Sum.inr x)) (fun x => again (Sum.inl x)) h hq i0 i1 hpi fun i' q' t' a1 a2 a3 a4 a5 a6 => ⟨hag (Sum.inr (i', q', t')) ⟨a1, a2, a3, a4, a5⟩ a6, hag (Sum.inl (i', q', t')) ⟨a1, a2, a3, a4, a5⟩ a6⟩
 ·exact key i q t (fun x => again (Sum.inr x)) (fun x => again (Sum.inr x)) h hq i0 i1 hpi fun i' q' t' a1 a2 a3 a4 a5 a6 => ⟨hag (Sum.inr (i', q', t')) ⟨a1, a2, a3, a4, a5⟩ a6, hag (Sum.inr (i', q', t')) ⟨a1, a2, a3, a4, a5⟩ a6⟩
end Go.Proofs.YtjllpipmaejeoaaGreat.Pl
namespace Go.Proofs.YtjllpipmaejeoaaGreat.Pl
open Go.Proofs.YtjllpipmaejeoaaGreat.R Go.Proofs.YtjllpipmaejeoaaGreat.XU
theorem ybW : ∀ (n : List y9) (s : Int), 0 ≤ s → s + 60 * n.length ≤ 1000 → (∀ a ∈ n, List.length a ≤ 60) → n.foldl y0I s = s + WW VC n
 | [], s, _, _, _ => by simp [WW]
 | a :: n, s, h0, hb, ha => by
  have h1 := ha a (by simp)
  rw [List.length_cons] at hb
  have hw : y0I s a = s + (List.length a : Int) := w64 (by omega) (by omega)
  have e : VC a = (List.length a : Int) := rfl
  rw [List.foldl_cons, hw, ybW n _ (by omega) (by omega) fun b hm => ha b (by simp [hm]), Y7, e]
  omega
theorem JW {n : List y9} (h : Yn n = true) : n.length ≤ 3 ∧ WW VC n ≤ 8 ∧ ∀ s ∈ n, ∀ k ∈ (show List y8 from s), zR k = true := by
 obtain ⟨h1, h2⟩ := y1B h
 have h3 := ybW n 0 (Int.le_refl _) (by omega) fun a ha => (y3k (h2 a ha)).1
 unfold Yn at h
 simp only [Bool.and_eq_true, decide_eq_true_eq] at h
 exact ⟨h1, by omega, fun s hs => (y3k (h2 s hs)).2⟩
theorem y1H {n : List y9} (h : Yn n = true) : NS n := ⟨by have := (JW h).1; omega, by have := (JW h).2.1; omega⟩
theorem QV {q : List Int} {t : List y0} (h : z7 q t = true) : TS t := by
 obtain ⟨h1, h2, h3, h4⟩ := jw h
 exact ⟨by omega, fun n hn => y1H (h4 n hn)⟩
theorem yaT {q : List Int} {t : List y0} (h : z7 q t = true) : q.getD 0 0 = 0 := by
 unfold z7 at h
 simp only [Bool.and_eq_true, beq_iff_eq] at h
 exact h.2.2.1
theorem y2H (q : List Int) (sp : Int) (h : q.getD 0 0 ≤ sp) : ∀ n, 0 ≤ k6 q sp (n + 1)
 | 0 => by
  rw [k6, if_pos h]
  simp
 | n + 1 => by
  rw [k6]
  split
  ·omega
  ·exact y2H q sp h n
theorem ygR {k : y8} (h : zR k = true) : 0 ≤ Ju k.1 k.2.1 := by
 unfold zR at h
 simp only [Bool.and_eq_true, zl] at h
 obtain ⟨h1, h2, _⟩ := h
 unfold Ju
 rw [w64 (n := (64 : Int) * k.1) (by omega) (by omega), w64 (by omega) (by omega)]
 omega
theorem ygS {n : List y9} {k : y8} (hn : Yn n = true) (hk : zR k = true) (h : (zg n k).2 = false) : 8 < (Y3 n k).length := by
 unfold zg at h
 split at h
 ·cases h
 ·split at h
  ·assumption
  ·rename_i h8
   have hok : Yn (yK (Y3 n k)) = true := y2d (Kl (JU k (Km n))) (fun x hx => by
    rcases y0i (y4a hx) with rfl | hx
    ·exact hk
    ·obtain ⟨c, hc, hx⟩ := QS hx
     exact (JW hn).2.2 c hc x hx) (by omega)
   rw [if_pos hok] at h
   cases h
theorem y2h {n : List y9} (k : y8) (h : NS n) (h2 : n.length ≤ 900 ∧ WW VC n ≤ 900) : NS (zg n k).1 := by
 have h1 := y2e n k
 have h3 := y1G n k
 have h4 := Ki n
 unfold zg
 split
 ·exact ⟨by simp only; omega, by simp only; omega⟩
 ·split
  ·exact h
  ·split
   ·exact y0j (by omega)
   ·exact h
def z9 (q : List Int) (k : y8) : Nat := (k6 q (Ju k.1 k.2.1) q.length).toNat
def wT (l : List y8) : Nat := (l.length + 1) / 2
def yu (q : List Int) (t : List y0) (k : y8) : List Int × List y0 :=
 if (zg (t.getD (z9 q k) yh) k).2 = false then
  (yV q (z9 q k) 1 [q.getD (z9 q k) 0, jN ((Y3 (t.getD (z9 q k) yh) k).getD (wT (Y3 (t.getD (z9 q k) yh) k)) yI)],
   yV t (z9 q k) 1 [yK ((Y3 (t.getD (z9 q k) yh) k).take (wT (Y3 (t.getD (z9 q k) yh) k))), yK ((Y3 (t.getD (z9 q k) yh) k).drop (wT (Y3 (t.getD (z9 q k) yh) k)))])
 else if 0 < z9 q k ∧ (yA (zg (t.getD (z9 q k) yh) k).1).length = 0 then (yV q (z9 q k) 1 [], yV t (z9 q k) 1 [])
 else (q, t.set (z9 q k) (zg (t.getD (z9 q k) yh) k).1)
def yB (q : List Int) (t : List y0) (k : y8) : List Int × List y0 × Bool :=
 if (z7 q t && zR k) = true then
  (if z7 (ZV (yu q t k).2.length (yu q t k).1 (yu q t k).2).1 (ZV (yu q t k).2.length (yu q t k).1 (yu q t k).2).2 = true then
   ((ZV (yu q t k).2.length (yu q t k).1 (yu q t k).2).1, (ZV (yu q t k).2.length (yu q t k).1 (yu q t k).2).2, true) else (q, t, false))
 else (q, t, false)
theorem y7L : ∀ (m : Nat) (q : List Int) (t : List y0), TS t → TS (ZV m q t).2
 | 0, _, _, h => h
 | m + 1, q, t, h => by
  rw [ZV]
  split
  ·exact h
  ·rename_i hp
   exact y7L m _ _ (yaS h hp)
section
variable {q : List Int} {t : List y0} {k : y8} (h : z7 q t = true) (hk : zR k = true)
include h hk
theorem y0l : (k6 q (Ju k.1 k.2.1) q.length) = (z9 q k : Int) ∧ z9 q k < t.length ∧ z9 q k < q.length := by
 obtain ⟨h1, h2, h3, h4⟩ := jw h
 have h5 := y2H q (Ju k.1 k.2.1) (by rw [yaT h]; exact ygR hk) (q.length - 1)
 rw [show q.length - 1 + 1 = q.length by omega] at h5
 have h6 := y5P q (Ju k.1 k.2.1) q.length
 unfold z9
 omega
theorem QW : Yn (t.getD (z9 q k) yh) = true := by
 have h1 := (y0l h hk).2.1
 rw [zd _ _ _ h1]
 exact (jw h).2.2.2 _ (List.getElem_mem _)
theorem y7M (hm : (zg (t.getD (z9 q k) yh) k).2 = false) : wT (Y3 (t.getD (z9 q k) yh) k) < (Y3 (t.getD (z9 q k) yh) k).length ∧ (Y3 (t.getD (z9 q k) yh) k).length ≤ 9 := by
 have h1 := ygS (QW h hk) hk hm
 have h2 := y1G (t.getD (z9 q k) yh) k
 have h3 := Ki (t.getD (z9 q k) yh)
 have h4 := (JW (QW h hk)).2.1
 unfold wT
 omega
theorem y5R : TS (yu q t k).2 ∧ (yu q t k).1.length = (yu q t k).2.length := by
 obtain ⟨h1, h2, h3, h4⟩ := jw h
 obtain ⟨g0, g1, g2⟩ := y0l h hk
 have hT := QV h
 have hn := JW (QW h hk)
 unfold yu
 split
 ·rename_i hm
  have hh := y7M h hk hm
  refine ⟨hT.splice (by rw [Yq _ _ _ _ (by omega)]; simp only [List.length_cons, List.length_nil]; omega) fun n hn => ?_, by rw [Yq _ _ _ _ (by omega), Yq _ _ _ _ (by omega)]; simp only [List.length_cons, List.length_nil]; omega⟩
  simp only [List.mem_cons, List.mem_nil_iff, or_false] at hn
  rcases hn with rfl | rfl
  ·exact y0j (by rw [List.length_take]; omega)
  ·exact y0j (by rw [List.length_drop]; omega)
 ·split
  ·refine ⟨hT.splice (by rw [Yq _ _ _ _ (by omega)]; simp only [List.length_nil]; omega) (fun n hn => by cases hn), by rw [Yq _ _ _ _ (by omega), Yq _ _ _ _ (by omega)]; simp only [List.length_nil]; omega⟩
  ·refine ⟨⟨by simp only [List.length_set]; omega, fun n hn2 => (List.mem_or_eq_of_mem_set hn2).elim (hT.node n) fun e => e ▸ y2h k (y1H (QW h hk)) (by omega)⟩, by simp only [List.length_set]; omega⟩
end
theorem Jy (q : List Int) (t : List y0) (a b c d e : Int) (hT : TOk t) (hQ : ∀ n ∈ t, y2U n) (hq : q.length ≤ 1048576) : zU (q, t, a, b, c, d, e) = some (yB q t (a, b, c, d, e)) := by
 unfold zU yB
 simp only [Vx q t hq hT.len hQ, Vt q t hT, y1x, Option.bind_some]
 cases h : z7 q t with
 | false => rfl
 | true =>
  cases hk : zR (a, b, c, d, e) with
  | false => rfl
  | true =>
   obtain ⟨h1, h2, h3, h4⟩ := jw h
   obtain ⟨g0, g1, g2⟩ := y0l h hk
   have hNS := y1H (QW h hk)
   have hnf := JW (QW h hk)
   have hP := y5R h hk
   have hJ := y7L (yu q t (a, b, c, d, e)).2.length (yu q t (a, b, c, d, e)).1 (yu q t (a, b, c, d, e)).2 hP.1
   have ern : yf t (z9 q (a, b, c, d, e) : Int) = t.getD (z9 q (a, b, c, d, e)) yh := by
    show t.getD ((z9 q (a, b, c, d, e) : Int)).toNat yh = _
    rw [Int.toNat_natCast]
   have erq : zu q (z9 q (a, b, c, d, e) : Int) = q.getD (z9 q (a, b, c, d, e)) 0 := by
    show q.getD ((z9 q (a, b, c, d, e) : Int)).toNat 0 = _
    rw [Int.toNat_natCast]
   have hfin : ∀ p : List Int × List y0, p = yu q t (a, b, c, d, e) → (Option.bind (Z2 (p.1, p.2)) fun r15 => Option.bind (Yg (r15.1, r15.2)) fun r16 => bif (!r16) then some (q, t, false) else some (r15.1, r15.2, true)) = some (if z7 (ZV (yu q t (a, b, c, d, e)).2.length (yu q t (a, b, c, d, e)).1 (yu q t (a, b, c, d, e)).2).1 (ZV (yu q t (a, b, c, d, e)).2.length (yu q t (a, b, c, d, e)).1 (yu q t (a, b, c, d, e)).2).2 = true then ((ZV (yu q t (a, b, c, d, e)).2.length (yu q t (a, b, c, d, e)).1 (yu q t (a, b, c, d, e)).2).1, (ZV (yu q t (a, b, c, d, e)).2.length (yu q t (a, b, c, d, e)).1 (yu q t (a, b, c, d, e)).2).2, true) else (q, t, false)) := by
    rintro p rfl
    simp only [y93 _ _ hP.1 hP.2, Option.bind_some, Vt _ _ hJ.ok]
    cases z7 (ZV (yu q t (a, b, c, d, e)).2.length (yu q t (a, b, c, d, e)).1 (yu q t (a, b, c, d, e)).2).1 (ZV (yu q t (a, b, c, d, e)).2.length (yu q t (a, b, c, d, e)).1 (yu q t (a, b, c, d, e)).2).2 <;> rfl
   simp only [Bool.not_true, cond_false, Option.bind_some, QU q t a b hq, show k6 q (Ju a b) q.length = (z9 q (a, b, c, d, e) : Int) from g0, ern, erq, Bool.and_self, if_true]
   rw [if_pos (by omega), if_pos (by omega), y4e _ a b c d e hNS]
   simp only [Option.bind_some]
   rw [if_pos (by omega), if_pos (by omega), qD q t _ _ _ (by omega) (by omega) (by omega) (by omega) (by omega) (by simp) (by simp)]
   simp only [Option.bind_some, Int.toNat_natCast]
   cases hm : (zg (t.getD (z9 q (a, b, c, d, e)) yh) (a, b, c, d, e)).2 with
   | false =>
    have hh := y7M h hk hm
    have hkn := (hNS.keys)
    have hsl := W4 (yA (t.getD (z9 q (a, b, c, d, e)) yh)) (a, b, c, d, e)
    have e1 : zW (zT (yA (t.getD (z9 q (a, b, c, d, e)) yh)) (a, b, c, d, e)) = some (Y3 (t.getD (z9 q (a, b, c, d, e)) yh) (a, b, c, d, e)) := QO _ (by omega)
    have hput := yu.eq_1 q t (a, b, c, d, e)
    rw [if_pos hm] at hput
    generalize hW : Y3 (t.getD (z9 q (a, b, c, d, e)) yh) (a, b, c, d, e) = W at hh e1 hput
    have hwr : Go.IntKind.wrap .i64 (Int.tdiv (Go.IntKind.wrap .i64 (((List.length W : Nat) : Int) + (1 : Int))) (2 : Int)) = (wT W : Int) := by
     rw [w64 (n := ((List.length W : Nat) : Int) + 1) (by omega) (by omega), Int.tdiv_eq_ediv_of_nonneg (by omega)]
     unfold wT
     rw [w64 (by omega) (by omega)]
     omega
    simp only [Bool.not_false, cond_true, YW _ (Nat.le_trans hNS.len (by decide)) (Int.le_trans hNS.sum (by decide)), K3 _ a b c d e (show (yA (t.getD (z9 q (a, b, c, d, e)) yh)).length ≤ 1073741824 by omega), e1, Option.bind_some, hwr, Int.toNat_natCast]
    rw [if_pos (by omega), if_pos (by omega), if_pos (by omega), if_pos (by omega), if_pos (by omega), if_pos (by omega)]
    have e2 : JE ((y6 W (wT W : Int)).1, (y6 W (wT W : Int)).2.1, (y6 W (wT W : Int)).2.2.1, (y6 W (wT W : Int)).2.2.2.1, (y6 W (wT W : Int)).2.2.2.2) = some (jN (W.getD (wT W) yI)) := by
     have e3 : y6 W (wT W : Int) = W.getD (wT W) yI := by
      show W.getD ((wT W : Int)).toNat yI = _
      rw [Int.toNat_natCast]
     rw [e3]
     rfl
    rw [e2]
    simp only [Option.bind_some]
    rw [if_pos (by omega), if_pos (by omega), if_pos (by omega), Jw _ (by simp only [List.length_drop, List.length_take]; omega)]
    simp only [Option.bind_some]
    rw [if_pos (by omega), if_pos (by omega), if_pos (by omega), Jw _ (by simp only [List.length_drop, List.length_take]; omega)]
    simp only [Option.bind_some]
    rw [qD q t _ _ _ (by omega) (by omega) (by omega) (by omega) (by omega) (by simp) (by simp)]
    simp only [Option.bind_some, Int.toNat_natCast, List.take_length]
    exact hfin _ hput.symm
   | true =>
    have hP2 := y2h (a, b, c, d, e) hNS (by omega)
    have hnm : ¬ (zg (t.getD (z9 q (a, b, c, d, e)) yh) (a, b, c, d, e)).2 = false := by rw [hm]; simp
    simp only [Bool.not_true, cond_false, YW _ (Nat.le_trans hP2.len (by decide)) (Int.le_trans hP2.sum (by decide)), Option.bind_some]
    have hput := yu.eq_1 q t (a, b, c, d, e)
    rw [if_neg hnm] at hput
    have h3 : (bif decide ((z9 q (a, b, c, d, e) : Int) > 0) then some (((List.length (yA (zg (t.getD (z9 q (a, b, c, d, e)) yh) (a, b, c, d, e)).1) : Nat) : Int) == 0) else some false) = some (decide (0 < z9 q (a, b, c, d, e) ∧ (yA (zg (t.getD (z9 q (a, b, c, d, e)) yh) (a, b, c, d, e)).1).length = 0)) := by
     by_cases i0 : 0 < z9 q (a, b, c, d, e)
     ·rw [decide_eq_true (show (z9 q (a, b, c, d, e) : Int) > 0 by omega), cond_true]
      congr 1
      by_cases i1 : (yA (zg (t.getD (z9 q (a, b, c, d, e)) yh) (a, b, c, d, e)).1).length = 0
      ·rw [decide_eq_true ⟨i0, i1⟩]
       exact beq_iff_eq.2 (by omega)
      ·rw [decide_eq_false (fun hh => i1 hh.2)]
       exact beq_eq_false_iff_ne.2 (by omega)
     ·rw [decide_eq_false (show ¬ (z9 q (a, b, c, d, e) : Int) > 0 by omega), decide_eq_false (fun hh => i0 hh.1)]
      rfl
    rw [h3]
    simp only [Option.bind_some]
    by_cases hz : 0 < z9 q (a, b, c, d, e) ∧ (yA (zg (t.getD (z9 q (a, b, c, d, e)) yh) (a, b, c, d, e)).1).length = 0
    ·rw [if_pos hz] at hput
     rw [decide_eq_true hz, cond_true, qD q t _ _ _ (by omega) (by omega) (by omega) (by omega) (by omega) (by simp) (by simp)]
     simp only [Option.bind_some, Int.toNat_natCast]
     exact hfin _ hput.symm
    ·rw [if_neg hz] at hput
     rw [decide_eq_false hz, cond_false]
     rw [y0k q _ _ (by omega), y0k t _ _ (by omega)]
     refine hfin (q.set (z9 q (a, b, c, d, e)) (q.getD (z9 q (a, b, c, d, e)) 0), t.set (z9 q (a, b, c, d, e)) (zg (t.getD (z9 q (a, b, c, d, e)) yh) (a, b, c, d, e)).1) ?_
     rw [hput, zd _ _ _ (by omega), List.set_getElem_self]
theorem y4g (q : List Int) (t : List y0) (a b c d e : Int) (hT : TOk t) (hQ : ∀ n ∈ t, y2U n) (hq : q.length ≤ 1048576) : jB (q, t, a, b, c, d, e) = some (yB q t (a, b, c, d, e)) := by
 unfold jB yB
 simp only [KF q t hq hT.len hQ, Vu q t hT, y1y, Option.bind_some]
 cases h : z7 q t with
 | false => rfl
 | true =>
  cases hk : zR (a, b, c, d, e) with
  | false => rfl
  | true =>
   obtain ⟨h1, h2, h3, h4⟩ := jw h
   obtain ⟨g0, g1, g2⟩ := y0l h hk
   have hNS := y1H (QW h hk)
   have hnf := JW (QW h hk)
   have hP := y5R h hk
   have hJ := y7L (yu q t (a, b, c, d, e)).2.length (yu q t (a, b, c, d, e)).1 (yu q t (a, b, c, d, e)).2 hP.1
   have ern : yf t (z9 q (a, b, c, d, e) : Int) = t.getD (z9 q (a, b, c, d, e)) yh := by
    show t.getD ((z9 q (a, b, c, d, e) : Int)).toNat yh = _
    rw [Int.toNat_natCast]
   have erq : zu q (z9 q (a, b, c, d, e) : Int) = q.getD (z9 q (a, b, c, d, e)) 0 := by
    show q.getD ((z9 q (a, b, c, d, e) : Int)).toNat 0 = _
    rw [Int.toNat_natCast]
   have hfin : ∀ p : List Int × List y0, p = yu q t (a, b, c, d, e) → (Option.bind (Zb (p.1, p.2)) fun r15 => Option.bind (Yh (r15.1, r15.2)) fun r16 => bif (!r16) then some (q, t, false) else some (r15.1, r15.2, true)) = some (if z7 (ZV (yu q t (a, b, c, d, e)).2.length (yu q t (a, b, c, d, e)).1 (yu q t (a, b, c, d, e)).2).1 (ZV (yu q t (a, b, c, d, e)).2.length (yu q t (a, b, c, d, e)).1 (yu q t (a, b, c, d, e)).2).2 = true then ((ZV (yu q t (a, b, c, d, e)).2.length (yu q t (a, b, c, d, e)).1 (yu q t (a, b, c, d, e)).2).1, (ZV (yu q t (a, b, c, d, e)).2.length (yu q t (a, b, c, d, e)).1 (yu q t (a, b, c, d, e)).2).2, true) else (q, t, false)) := by
    rintro p rfl
    simp only [y57 _ _ hP.1 hP.2, Option.bind_some, Vu _ _ hJ.ok]
    cases z7 (ZV (yu q t (a, b, c, d, e)).2.length (yu q t (a, b, c, d, e)).1 (yu q t (a, b, c, d, e)).2).1 (ZV (yu q t (a, b, c, d, e)).2.length (yu q t (a, b, c, d, e)).1 (yu q t (a, b, c, d, e)).2).2 <;> rfl
   simp only [Bool.not_true, cond_false, Option.bind_some, y4c q t a b hq, show k6 q (Ju a b) q.length = (z9 q (a, b, c, d, e) : Int) from g0, ern, erq, Bool.and_self, if_true]
   rw [if_pos (by omega), if_pos (by omega), y4f _ a b c d e hNS]
   simp only [Option.bind_some, Int.toNat_natCast]
   cases hm : (zg (t.getD (z9 q (a, b, c, d, e)) yh) (a, b, c, d, e)).2 with
   | false =>
    have hh := y7M h hk hm
    have e1 : zO (t.getD (z9 q (a, b, c, d, e)) yh, a, b, c, d, e) = some (Y3 (t.getD (z9 q (a, b, c, d, e)) yh) (a, b, c, d, e)) := Q0 _ a b c d e hNS
    have hput := yu.eq_1 q t (a, b, c, d, e)
    rw [if_pos hm] at hput
    generalize hW : Y3 (t.getD (z9 q (a, b, c, d, e)) yh) (a, b, c, d, e) = W at hh e1 hput
    have hwr : Go.IntKind.wrap .i64 (Int.tdiv (Go.IntKind.wrap .i64 (((List.length W : Nat) : Int) + (1 : Int))) (2 : Int)) = (wT W : Int) := by
     rw [w64 (n := ((List.length W : Nat) : Int) + 1) (by omega) (by omega), Int.tdiv_eq_ediv_of_nonneg (by omega)]
     unfold wT
     rw [w64 (by omega) (by omega)]
     omega
    simp only [Bool.not_false, cond_true, e1, Option.bind_some, hwr, Int.toNat_natCast]
    rw [if_pos (by omega), if_pos (by omega), if_pos (by omega), if_pos (by omega), if_pos (by omega), if_pos (by omega)]
    have e2 : Z8 ((y6 W (wT W : Int)).1, (y6 W (wT W : Int)).2.1) = some (jN (W.getD (wT W) yI)) := by
     have e3 : y6 W (wT W : Int) = W.getD (wT W) yI := by
      show W.getD ((wT W : Int)).toNat yI = _
      rw [Int.toNat_natCast]
     rw [e3]
     rfl
    rw [e2]
    simp only [Option.bind_some]
    rw [if_pos (by omega), if_pos (by omega), if_pos (by omega), Jx _ (by simp only [List.length_drop, List.length_take]; omega)]
    simp only [Option.bind_some]
    rw [if_pos (by omega), if_pos (by omega), if_pos (by omega), Jx _ (by simp only [List.length_drop, List.length_take]; omega)]
    simp only [Option.bind_some]
    rw [KH q t _ 1 _ _ (by omega) (by decide) (by omega) (by omega) (by omega) (by omega) (by simp) (by simp)]
    simp only [Option.bind_some, Int.toNat_natCast, List.take_length]
    exact hfin _ hput.symm
   | true =>
    have hP2 := y2h (a, b, c, d, e) hNS (by omega)
    have hnm : ¬ (zg (t.getD (z9 q (a, b, c, d, e)) yh) (a, b, c, d, e)).2 = false := by rw [hm]; simp
    simp only [Bool.not_true, cond_false, ju _ (Nat.le_trans hP2.len (by decide)) (Int.le_trans hP2.sum (by decide)), Option.bind_some]
    have hput := yu.eq_1 q t (a, b, c, d, e)
    rw [if_neg hnm] at hput
    have h3 : (bif decide ((z9 q (a, b, c, d, e) : Int) > 0) then some (((List.length (yA (zg (t.getD (z9 q (a, b, c, d, e)) yh) (a, b, c, d, e)).1) : Nat) : Int) == 0) else some false) = some (decide (0 < z9 q (a, b, c, d, e) ∧ (yA (zg (t.getD (z9 q (a, b, c, d, e)) yh) (a, b, c, d, e)).1).length = 0)) := by
     by_cases i0 : 0 < z9 q (a, b, c, d, e)
     ·rw [decide_eq_true (show (z9 q (a, b, c, d, e) : Int) > 0 by omega), cond_true]
      congr 1
      by_cases i1 : (yA (zg (t.getD (z9 q (a, b, c, d, e)) yh) (a, b, c, d, e)).1).length = 0
      ·rw [decide_eq_true ⟨i0, i1⟩]
       exact beq_iff_eq.2 (by omega)
      ·rw [decide_eq_false (fun hh => i1 hh.2)]
       exact beq_eq_false_iff_ne.2 (by omega)
     ·rw [decide_eq_false (show ¬ (z9 q (a, b, c, d, e) : Int) > 0 by omega), decide_eq_false (fun hh => i0 hh.1)]
      rfl
    rw [h3]
    simp only [Option.bind_some]
    by_cases hz : 0 < z9 q (a, b, c, d, e) ∧ (yA (zg (t.getD (z9 q (a, b, c, d, e)) yh) (a, b, c, d, e)).1).length = 0
    ·rw [if_pos hz] at hput
     rw [decide_eq_true hz, cond_true, KH q t _ 1 _ _ (by omega) (by decide) (by omega) (by omega) (by omega) (by omega) (by simp) (by simp)]
     simp only [Option.bind_some, Int.toNat_natCast]
     exact hfin _ hput.symm
    ·rw [if_neg hz] at hput
     rw [decide_eq_false hz, cond_false, if_pos (by omega), if_pos (by omega)]
     exact hfin _ hput.symm
end Go.Proofs.YtjllpipmaejeoaaGreat.Pl
namespace Go.Proofs.YtjllpipmaejeoaaGreat.Pl
open Go.Proofs.YtjllpipmaejeoaaGreat.R Go.Proofs.YtjllpipmaejeoaaGreat.XU
theorem QX (a : y8) : wQ a a = false := by
 cases h : wQ a a with
 | false => rfl
 | true =>
  rw [Kj] at h
  omega
theorem y7N : ∀ {a b : List y8}, srt a → srt b → (∀ x, x ∈ a ↔ x ∈ b) → a = b
 | [], [], _, _, _ => rfl
 | [], y :: b, _, _, h => absurd ((h y).2 (by simp)) (by simp)
 | x :: a, [], _, _, h => absurd ((h x).1 (by simp)) (by simp)
 | x :: a, y :: b, ha, hb, h => by
  obtain ⟨ha1, ha2⟩ := List.pairwise_cons.1 ha
  obtain ⟨hb1, hb2⟩ := List.pairwise_cons.1 hb
  have hxy : x = y := by
   rcases List.mem_cons.1 ((h x).1 (by simp)) with e | h1
   ·exact e
   ·rcases List.mem_cons.1 ((h y).2 (by simp)) with e | h2
    ·exact e.symm
    ·have := y0Y (hb1 x h1) (ha1 y h2)
     rw [QX] at this
     cases this
  subst hxy
  rw [y7N ha2 hb2 fun z => ?_]
  constructor
  ·intro hz
   rcases List.mem_cons.1 ((h z).1 (by simp [hz])) with rfl | h1
   ·have := ha1 z hz
    rw [QX] at this
    cases this
   ·exact h1
  ·intro hz
   rcases List.mem_cons.1 ((h z).2 (by simp [hz])) with rfl | h1
   ·have := hb1 z hz
    rw [QX] at this
    cases this
   ·exact h1
theorem y2i {c k : y8} (h : wQ c k = true) : ZU c k = false := by
 cases hs : ZU c k with
 | false => rfl
 | true =>
  rw [Kj] at h
  rw [WY] at hs
  omega
theorem Vy {k x : y8} : ∀ {l : List y8}, x ∈ zT l k ↔ x = k ∨ (x ∈ l ∧ ZU x k = false) := by
 intro l
 rw [kP]
 induction l with
 | nil => simp [y7Z]
 | cons c r ih =>
  rw [y7Z]
  split
  ·rename_i hl
   have := y2i hl
   simp only [List.mem_cons, ih]
   constructor
   ·rintro (rfl | rfl | ⟨h1, h2⟩)
    ·exact .inr ⟨.inl rfl, this⟩
    ·exact .inl rfl
    ·exact .inr ⟨.inr h1, h2⟩
   ·rintro (rfl | ⟨rfl | h1, h2⟩)
    ·exact .inr (.inl rfl)
    ·exact .inl rfl
    ·exact .inr (.inr ⟨h1, h2⟩)
  ·simp only [List.mem_cons, List.mem_filter, Bool.not_eq_true']
theorem y4h {a b : y8} : ZU a b = ZU b a := by
 cases h : ZU b a with
 | true => rw [WY] at h ⊢; exact ⟨h.1.symm, h.2.symm⟩
 | false =>
  cases h2 : ZU a b with
  | false => rfl
  | true =>
   rw [WY] at h2
   rw [WY.2 ⟨h2.1.symm, h2.2.symm⟩] at h
   cases h
theorem yda {a b c : y8} (h1 : ZU a b = true) (h2 : ZU b c = true) : ZU a c = true := by
 rw [WY] at *
 exact ⟨h1.1.trans h2.1, h1.2.trans h2.2⟩
theorem y1I {x : y8} : ∀ {b a : List y8}, srt b → (x ∈ YP a b ↔ x ∈ b ∨ (x ∈ a ∧ ∀ y ∈ b, ZU x y = false))
 | [], a, _ => by simp [YP]
 | c :: b, a, h => by
  obtain ⟨h1, h2⟩ := List.pairwise_cons.1 h
  have := y1I (x := x) (b := b) (a := zT a c) h2
  rw [show YP a (c :: b) = YP (zT a c) b from rfl, this, Vy]
  constructor
  ·rintro (h3 | ⟨rfl | ⟨h3, h4⟩, h5⟩)
   ·exact .inl (by simp [h3])
   ·exact .inl (by simp)
   ·exact .inr ⟨h3, fun y hy => by
     rcases List.mem_cons.1 hy with rfl | hy
     ·exact h4
     ·exact h5 y hy⟩
  ·rintro (h3 | ⟨h3, h4⟩)
   ·rcases List.mem_cons.1 h3 with rfl | h3
    ·exact .inr ⟨.inl rfl, fun y hy => y2i (h1 y hy)⟩
    ·exact .inl h3
   ·exact .inr ⟨.inr ⟨h3, h4 c (by simp)⟩, fun y hy => h4 y (by simp [hy])⟩
theorem yf6 {a b : List y8} (ha : srt a) (hb : srt b) (k : y8) : YP a (zT b k) = zT (YP a b) k := by
 refine y7N (qb _ _ ha) (JU k (qb _ _ ha)) fun x => ?_
 rw [y1I (JU k hb), Vy, Vy, y1I hb]
 constructor
 ·rintro ((rfl | ⟨h1, h2⟩) | ⟨h1, h2⟩)
  ·exact .inl rfl
  ·exact .inr ⟨.inl h1, h2⟩
  ·have hk := h2 k (Vy.2 (.inl rfl))
   refine .inr ⟨.inr ⟨h1, fun y hy => ?_⟩, hk⟩
   cases hy2 : ZU y k with
   | false => exact h2 y (Vy.2 (.inr ⟨hy, hy2⟩))
   | true =>
    cases hxy : ZU x y with
    | false => rfl
    | true => rw [yda hxy hy2] at hk; cases hk
 ·rintro (rfl | ⟨h1 | ⟨h1, h2⟩, h3⟩)
  ·exact .inl (.inl rfl)
  ·exact .inl (.inr ⟨h1, h3⟩)
  ·refine .inr ⟨h1, fun y hy => ?_⟩
   rcases Vy.1 hy with rfl | ⟨hy, _⟩
   ·exact h3
   ·exact h2 y hy
theorem qE {x : y8} {l : List y8} : x ∈ ka l ↔ x ∈ l ∧ x.2.2.1 ≠ 0 := by
 rw [qC, List.mem_filter]
 simp
theorem ygT {l : List y8} (h : srt l) (k : y8) : ka (zT (ka l) k) = ka (zT l k) := by
 refine y7N (Kl (JU k (Kl h))) (Kl (JU k h)) fun x => ?_
 rw [qE, qE, Vy, Vy, qE]
 constructor
 ·rintro ⟨rfl | ⟨⟨h1, h2⟩, h3⟩, h4⟩
  ·exact ⟨.inl rfl, h4⟩
  ·exact ⟨.inr ⟨h1, h3⟩, h4⟩
 ·rintro ⟨rfl | ⟨h1, h3⟩, h4⟩
  ·exact ⟨.inl rfl, h4⟩
  ·exact ⟨.inr ⟨⟨h1, h4⟩, h3⟩, h4⟩
theorem y4i (l : List y8) (h : ∀ x ∈ l, x.2.2.1 ≠ 0) : ka l = l := by
 rw [qC, List.filter_eq_self]
 intro x hx
 simpa using h x hx
theorem ybX (a b : List y8) : ka (a ++ b) = ka a ++ ka b := by
 rw [qC, qC, qC, List.filter_append]
theorem vU {n : List y9} {x : y8} (h : x ∈ yA n) : x.2.2.1 ≠ 0 := (qE.1 h).2
theorem yf7 (k : y8) {C : List y8} (hC : ∀ x ∈ C, wQ k x = true) : ∀ {A B : List y8}, (∀ x ∈ A, wQ x k = true) → zT (A ++ B ++ C) k = A ++ zT B k ++ C
 | a :: A, B, hA => by
  have := yf7 k hC (A := A) (B := B) fun x hx => hA x (by simp [hx])
  rw [kP] at *
  rw [List.cons_append, List.cons_append, y7Z, if_pos (hA a (by simp)), this, kP]
  rfl
 | [], B, _ => by
  rw [kP, kP, List.nil_append, List.nil_append]
  induction B with
  | nil =>
   cases C with
   | nil => rfl
   | cons c C =>
    rw [List.nil_append, show y7Z ([] : List y8) k = [k] from rfl, y7Z, if_neg, List.filter_eq_self.2]
    ·rfl
    ·intro x hx
     rw [y4h, y2i (hC x hx)]
     rfl
    ·intro h
     have := y0Y h (hC c (by simp))
     rw [QX] at this
     cases this
  | cons b B ih =>
   rw [List.cons_append, y7Z, y7Z]
   split
   ·rw [ih]
    rfl
   ·rw [← List.cons_append, List.filter_append, List.cons_append]
    congr 2
    rw [List.filter_eq_self]
    intro x hx
    rw [y4h, y2i (hC x hx)]
    rfl
def yrY (n : List y9) : List y8 := n.foldl YP []
theorem ybY (n : List y9) : srt (yrY n) := y4b n [] List.Pairwise.nil
theorem ybZ (n : List y9) : yA n = ka (yrY n) := rfl
theorem yf8 {s : List y8} (h : kc s = true) : srt s := by
 unfold kc at h
 simp only [Bool.and_eq_true, Bool.not_eq_true', decide_eq_true_eq] at h
 have step : ∀ j : Nat, (hj : j + 1 < s.length) → wQ s[j] s[j + 1] = true := fun j hj => by
  have := JT yI s 0 h.2.1 (j + 1) hj
  unfold w5 at this
  rw [show ((0 : Int) + ((j + 1 : Nat) : Int) - 1).toNat = j by omega, zd _ _ _ (by omega), zd _ _ _ hj] at this
  simp only [Bool.and_eq_false_iff, Bool.not_eq_false', decide_eq_false_iff_not] at this
  rcases this with h1 | h1
  ·omega
  ·exact h1
 refine List.pairwise_iff_getElem.2 fun i j hi hj hij => ?_
 obtain ⟨d, rfl⟩ : ∃ d, j = i + 1 + d := ⟨j - (i + 1), by omega⟩
 induction d with
 | zero => exact step i hj
 | succ d ih => exact y0Y (ih (by omega) (by omega)) (step (i + 1 + d) hj)
theorem Zg {l : List y8} (h : srt l) (hl : ∀ x ∈ l, x.2.2.1 ≠ 0) : yA (yK l) = l := by
 unfold yK
 split
 ·rename_i h0
  rw [List.length_eq_zero_iff.1 h0]
  rfl
 ·show ka (YP [] l) = l
  rw [show YP [] l = l from y7N (qb l [] List.Pairwise.nil) h fun x => by rw [y1I h]; simp]
  exact y4i l hl
theorem y7O (n : List y9) (s : y9) : yrY (n ++ [s]) = YP (yrY n) s := by
 unfold yrY
 rw [List.foldl_append]
 rfl
theorem yaU {n : List y9} (k : y8) (hn : ∀ s ∈ n, kc s = true) : yA (Jv n k) = Y3 n k := by
 rw [ybZ]
 unfold Y3
 rw [ybZ, ygT (ybY n)]
 congr 1
 unfold Jv
 split
 ·rename_i h
  obtain ⟨n0, hn0⟩ : ∃ n0 : List y9, n = n0 ++ [JV n] := by
   refine ⟨n.take (n.length - 1), ?_⟩
   unfold JV
   rw [zd _ _ _ (by omega)]
   have e := List.take_append_drop (n.length - 1) n
   rw [List.drop_eq_getElem_cons (by omega), List.drop_eq_nil_of_le (by omega)] at e
   exact e.symm
  have hlast := yf8 (hn _ (y1F h.1))
  have e1 : n.set (n.length - 1) (zT (JV n) k) = n0 ++ [zT (JV n) k] := by
   generalize JV n = L at *
   rw [hn0, List.length_append, List.set_append_right _ _ (by simp)]
   simp
  rw [e1, y7O, yf6 (ybY n0) hlast k, ← y7O, ← hn0]
 ·rw [y7O]
  rfl
theorem y3m (n : List y9) (k : y8) : srt (Y3 n k) := Kl (JU k (Km n))
theorem y1J {n : List y9} {k x : y8} (h : x ∈ Y3 n k) : x.2.2.1 ≠ 0 := (qE.1 h).2
theorem y94 {n : List y9} (k : y8) (hn : ∀ s ∈ n, kc s = true) (h : (zg n k).2 = true) : yA (zg n k).1 = Y3 n k := by
 unfold zg at h ⊢
 split
 ·exact yaU k hn
 ·rename_i h1
  rw [if_neg h1] at h
  split
  ·rename_i h2
   rw [if_pos h2] at h
   cases h
  ·rename_i h2
   rw [if_neg h2] at h
   split
   ·exact Zg (y3m n k) fun x hx => y1J hx
   ·rename_i h3
    rw [if_neg h3] at h
    cases h
theorem yxG (t : List y0) : ∀ s : List y8, t.foldl WX s = s ++ t.flatMap yA := by
 induction t with
 | nil => intro s; simp
 | cons n t ih =>
  intro s
  rw [List.foldl_cons, ih]
  simp [WX]
theorem Ko (t : List y0) : yn t = t.flatMap yA := by
 unfold yn
 rw [yxG]
 rfl
theorem YO (a b : List y0) : yn (a ++ b) = yn a ++ yn b := by
 rw [Ko, Ko, Ko, List.flatMap_append]
theorem KS (n : y0) : yn [n] = yA n := by
 rw [Ko]
 simp
theorem y3n {t : List y0} {x : y8} : x ∈ yn t ↔ ∃ n ∈ t, x ∈ yA n := by
 rw [Ko, List.mem_flatMap]
theorem y4j {t : List y0} {x : y8} (h : x ∈ yn t) : x.2.2.1 ≠ 0 := by
 obtain ⟨n, _, hx⟩ := y3n.1 h
 exact vU hx
theorem y0m {A : Type} (d : A) (t : List A) (i : Nat) (h : i < t.length) : t = t.take i ++ ([t.getD i d] ++ t.drop (i + 1)) := by
 have e := List.take_append_drop i t
 rw [List.drop_eq_getElem_cons h] at e
 rw [zd _ _ _ h]
 exact e.symm
theorem y4k : ∀ (m : Nat) (q : List Int) (t : List y0), srt (yn t) → yn (ZV m q t).2 = yn t
 | 0, _, _, _ => rfl
 | m + 1, q, t, h => by
  rw [ZV]
  split
  ·rfl
  ·rename_i hp
   have hs : 0 ≤ yE t 0 ∧ yE t 0 + 2 ≤ (t.length : Int) := by
    rcases y2f t 0 with h1 | ⟨h1, h2, _⟩
    ·omega
    ·exact ⟨h1, by omega⟩
   have e1 := y0m yh t (yE t 0).toNat (by omega)
   have e2 := y0m yh (t.drop ((yE t 0).toNat + 1)) 0 (by rw [List.length_drop]; omega)
   have e3 : (t.drop ((yE t 0).toNat + 1)).getD 0 yh = t.getD (yE t 0 + 1).toNat yh := by
    rw [List.getD_eq_getElem?_getD, List.getD_eq_getElem?_getD, List.getElem?_drop, show (yE t 0).toNat + 1 + 0 = (yE t 0 + 1).toNat by omega]
   rw [e3, List.take_zero, List.nil_append, List.drop_drop] at e2
   have hk : yn t = yn (t.take (yE t 0).toNat) ++ ((yA (t.getD (yE t 0).toNat yh) ++ yA (t.getD (yE t 0 + 1).toNat yh)) ++ yn (t.drop ((yE t 0).toNat + 2))) := by
    conv => lhs; rw [e1]
    rw [e2, YO, YO, YO, KS, KS, List.append_assoc]
   have hx : srt (yA (t.getD (yE t 0).toNat yh) ++ yA (t.getD (yE t 0 + 1).toNat yh)) := by
    rw [hk] at h
    exact (List.pairwise_append.1 (List.pairwise_append.1 h).2.1).1
   have ht : yn (yV t (yE t 0).toNat 2 [yK (yA (t.getD (yE t 0).toNat yh) ++ yA (t.getD (yE t 0 + 1).toNat yh))]) = yn t := by
    unfold yV
    rw [YO, YO, KS, Zg hx (fun x hx => (List.mem_append.1 hx).elim vU vU), hk, List.append_assoc]
   rw [y4k m _ _ (by rw [ht]; exact h), ht]
end Go.Proofs.YtjllpipmaejeoaaGreat.Pl
namespace Go.Proofs.YtjllpipmaejeoaaGreat.Pl
open Go.Proofs.YtjllpipmaejeoaaGreat.R Go.Proofs.YtjllpipmaejeoaaGreat.XU
theorem y5S {A : Type} {p : A → Bool} : ∀ (l : List A) (i : Int), 0 ≤ i → zQ p l i < 0 → ∀ a ∈ l, p a = false
 | [], _, _, _, a, ha => by simp at ha
 | b :: l, i, hi, h, a, ha => by
  rw [zQ] at h
  split at h
  ·omega
  ·rename_i hb
   rcases List.mem_cons.1 ha with rfl | ha
   ·simpa using hb
   ·exact y5S l (i + 1) (by omega) h a ha
theorem yc0 {k : y8} (h : zR k = true) : jN k = 64 * k.1 + k.2.1 ∧ 0 ≤ k.1 ∧ k.1 ≤ 15 ∧ 1 ≤ k.2.1 ∧ k.2.1 ≤ 60 := by
 unfold zR at h
 simp only [Bool.and_eq_true, zl] at h
 obtain ⟨⟨h1, h2⟩, ⟨h3, h4⟩, _⟩ := h
 refine ⟨?_, h1, h2, h3, h4⟩
 unfold jN
 rw [w64 (n := 64 * k.1) (by omega) (by omega), w64 (by omega) (by omega)]
theorem qd {a b : y8} (ha : zR a = true) (hb : zR b = true) : wQ a b = true ↔ jN a < jN b := by
 have h1 := yc0 ha
 have h2 := yc0 hb
 rw [Kj, h1.1, h2.1]
 omega
structure Parts (q : List Int) (t : List y0) : Prop where
 len : q.length = t.length
 zero : q.getD 0 0 = 0
 pos : 0 < t.length
 ok : ∀ i, i < t.length → ∀ s ∈ (show List y9 from t.getD i yh), kc s = true
 low : ∀ i, i + 1 < t.length → q.getD i 0 < q.getD (i + 1) 0
 key : ∀ i, i < t.length → ∀ x ∈ yA (t.getD i yh), zR x = true ∧ q.getD i 0 ≤ jN x ∧ (i + 1 < t.length → jN x < q.getD (i + 1) 0)
theorem JX {q : List Int} {t : List y0} (h : z7 q t = true) : Parts q t := by
 obtain ⟨f1, f2, f3, f4⟩ := jw h
 unfold z7 at h
 simp only [Bool.and_eq_true, Bool.not_eq_true', decide_eq_true_eq, zl, beq_iff_eq] at h
 obtain ⟨_, _, h0, h3, _⟩ := h
 have hb : ∀ i, i < t.length → yd5 q i = false ∧ y1A q i (t.getD i yh) = true := fun i hi => by
  have := JT yh t 0 h3 i hi
  unfold KC at this
  simp only [Bool.or_eq_false_iff, Bool.not_eq_false'] at this
  rw [show (0 : Int) + (i : Int) = i by omega] at this
  exact this
 have hmem : ∀ i, i < t.length → t.getD i yh ∈ t := fun i hi => by
  rw [zd _ _ _ hi]
  exact List.getElem_mem _
 have hset : ∀ i, i < t.length → ∀ s ∈ (show List y9 from t.getD i yh), kc s = true := fun i hi s hs => (y1B (f4 _ (hmem i hi))).2 s hs
 refine ⟨f1, h0, by omega, hset, fun i hi => ?_, fun i hi x hx => ?_⟩
 ·have := (hb (i + 1) hi).1
  unfold yd5 at this
  simp only [Bool.and_eq_false_iff, decide_eq_false_iff_not] at this
  rcases this with h1 | h1
  ·omega
  ·rw [show (((i + 1 : Nat) : Int) - 1).toNat = i by omega, show (((i + 1 : Nat) : Int)).toNat = i + 1 by omega] at h1
   omega
 ·obtain ⟨c, hc, hxc⟩ := QS hx
  refine ⟨(y3k (hset i hi c hc)).2 x hxc, ?_⟩
  have h1 := (hb i hi).2
  unfold y1A at h1
  simp only [Bool.and_eq_true, Bool.not_eq_true'] at h1
  obtain ⟨_, h2⟩ := w7 _ _ 0 h1.2.2 c hc
  unfold y9A at h2
  obtain ⟨_, h3⟩ := w7 _ _ 0 h2 x hxc
  unfold yfC at h3
  simp only [Bool.or_eq_false_iff, decide_eq_false_iff_not, Bool.and_eq_false_iff] at h3
  rw [show ((i : Nat) : Int).toNat = i by omega, show (((i : Nat) : Int) + 1).toNat = i + 1 by omega] at h3
  refine ⟨by omega, fun h4 => ?_⟩
  rcases h3.2 with h5 | h5 <;> omega
section
variable {q : List Int} {t : List y0} (h : Parts q t)
include h
theorem Parts.lows : ∀ (d i : Nat), i + 1 + d < t.length → q.getD i 0 < q.getD (i + 1 + d) 0
 | 0, i, hi => h.low i hi
 | d + 1, i, hi => by
  have h1 := Parts.lows d i (by omega)
  have h2 := h.low (i + 1 + d) (by omega)
  rw [show i + 1 + (d + 1) = i + 1 + d + 1 by omega]
  omega
theorem Parts.apart {i j : Nat} (hij : i < j) (hj : j < t.length) : ∀ x ∈ yA (t.getD i yh), jN x < q.getD j 0 := fun x hx => by
 obtain ⟨_, _, h3⟩ := h.key i (by omega) x hx
 have h3 := h3 (by omega)
 by_cases e : j = i + 1
 ·rw [e]
  exact h3
 ·have := h.lows (j - (i + 1) - 1) (i + 1) (by omega)
  rw [show i + 1 + 1 + (j - (i + 1) - 1) = j by omega] at this
  omega
theorem Parts.srt : srt (yn t) := by
 rw [Ko]
 refine List.pairwise_flatMap.2 ⟨fun n hn => Km n, List.pairwise_iff_getElem.2 fun i j hi hj hij x hx y hy => ?_⟩
 rw [← zd yh t i hi] at hx
 rw [← zd yh t j hj] at hy
 obtain ⟨kx, _⟩ := h.key i hi x hx
 obtain ⟨ky, ly, _⟩ := h.key j hj y hy
 rw [qd kx ky]
 have := h.apart hij hj x hx
 omega
omit h in
theorem y7P (q : List Int) (sp : Int) : ∀ (n : Nat) (j : Nat), k6 q sp n = (j : Int) → q.getD j 0 ≤ sp ∧ j < n ∧ ∀ i, j < i → i < n → sp < q.getD i 0
 | 0, j, h => by
  rw [k6] at h
  omega
 | n + 1, j, h => by
  rw [k6] at h
  split at h
  ·rename_i hq
   have : j = n := by omega
   subst this
   exact ⟨hq, Nat.lt_succ_self _, fun i h1 h2 => by omega⟩
  ·rename_i hq
   obtain ⟨h1, h2, h3⟩ := y7P q sp n j h
   refine ⟨h1, by omega, fun i h4 h5 => ?_⟩
   by_cases e : i = n
   ·subst e
    omega
   ·exact h3 i h4 (by omega)
theorem Parts.around {k : y8} (hk : zR k = true) {j : Nat} (hj : k6 q (Ju k.1 k.2.1) q.length = (j : Int)) : (∀ x ∈ yn (t.take j), wQ x k = true) ∧ ∀ x ∈ yn (t.drop (j + 1)), wQ k x = true := by
 have hs : Ju k.1 k.2.1 = jN k := rfl
 rw [hs] at hj
 obtain ⟨h1, h2, h3⟩ := y7P q (jN k) q.length j hj
 rw [h.len] at h2 h3
 refine ⟨fun x hx => ?_, fun x hx => ?_⟩
 ·obtain ⟨n, hn, hx⟩ := y3n.1 hx
  obtain ⟨i, hi, rfl⟩ := List.mem_iff_getElem.1 hn
  rw [List.length_take] at hi
  rw [List.getElem_take, ← zd yh t i (by omega)] at hx
  have hx1 := (h.key i (by omega) x hx).1
  have := h.apart (show i < j by omega) h2 x hx
  rw [qd hx1 hk]
  omega
 ·obtain ⟨n, hn, hx⟩ := y3n.1 hx
  obtain ⟨i, hi, rfl⟩ := List.mem_iff_getElem.1 hn
  rw [List.length_drop] at hi
  rw [List.getElem_drop, ← zd yh t (j + 1 + i) (by omega)] at hx
  obtain ⟨hx1, hx2, _⟩ := h.key (j + 1 + i) (by omega) x hx
  have := h3 (j + 1 + i) (by omega) (by omega)
  rw [qd hk hx1]
  omega
end
theorem QY {q : List Int} {t : List y0} {k : y8} (h : z7 q t = true) (hk : zR k = true) : yn (yu q t k).2 = ka (zT (yn t) k) := by
 have hP := JX h
 obtain ⟨e1, e2, e3⟩ := y0l h hk
 obtain ⟨hA, hC⟩ := hP.around hk e1
 have hsp := y0m yh t (z9 q k) e2
 have ht : yn t = yn (t.take (z9 q k)) ++ yA (t.getD (z9 q k) yh) ++ yn (t.drop (z9 q k + 1)) := by
  conv => lhs; rw [hsp]
  rw [YO, YO, KS, List.append_assoc]
 have hgoal : ka (zT (yn t) k) = yn (t.take (z9 q k)) ++ (Y3 (t.getD (z9 q k) yh) k ++ yn (t.drop (z9 q k + 1))) := by
  rw [ht, yf7 k hC hA, ybX, ybX, y4i _ (fun x hx => y4j hx), y4i _ (fun x hx => y4j hx), List.append_assoc]
  rfl
 have hok := hP.ok (z9 q k) e2
 have hset : ∀ n' : y0, yn (t.set (z9 q k) n') = yn (t.take (z9 q k)) ++ (yA n' ++ yn (t.drop (z9 q k + 1))) := fun n' => by
  rw [← y0k t (z9 q k) n' e2]
  unfold yV
  rw [YO, YO, KS, List.append_assoc]
 rw [hgoal]
 unfold yu
 generalize hn : t.getD (z9 q k) yh = n at *
 split
 ·unfold yV
  simp only
  have hw := y3m n k
  have e4 : ∀ m, yA (yK ((Y3 n k).take m)) = (Y3 n k).take m := fun m => Zg (List.Pairwise.sublist (List.take_sublist _ _) hw) fun x hx => y1J (List.mem_of_mem_take hx)
  have e5 : ∀ m, yA (yK ((Y3 n k).drop m)) = (Y3 n k).drop m := fun m => Zg (List.Pairwise.sublist (List.drop_sublist _ _) hw) fun x hx => y1J (List.mem_of_mem_drop hx)
  rw [YO, YO, show [yK ((Y3 n k).take (wT (Y3 n k))), yK ((Y3 n k).drop (wT (Y3 n k)))] = [yK ((Y3 n k).take (wT (Y3 n k)))] ++ [yK ((Y3 n k).drop (wT (Y3 n k)))] from rfl, YO, KS, KS, e4, e5, List.take_append_drop, List.append_assoc]
 ·rename_i h1
  have h2 := y94 k hok (by simpa using h1)
  split
  ·rename_i h3
   rw [h2] at h3
   unfold yV
   simp only
   rw [List.length_eq_zero_iff.1 h3.2, YO, YO]
   simp [Ko]
  ·rw [hset, h2]
theorem y4l {q : List Int} {t : List y0} {k : y8} (h : z7 q t = true) (hk : zR k = true) : srt (yn (yu q t k).2) := by
 rw [QY h hk]
 exact Kl (JU k (JX h).srt)
theorem QZ {q : List Int} {t : List y0} {k : y8} (h : (yB q t k).2.2 = true) : z7 q t = true ∧ zR k = true ∧ z7 (yB q t k).1 (yB q t k).2.1 = true ∧ yn (yB q t k).2.1 = ka (zT (yn t) k) := by
 unfold yB at h ⊢
 split
 ·rename_i h1
  rw [if_pos h1] at h
  simp only [Bool.and_eq_true] at h1
  split
  ·rename_i h2
   exact ⟨h1.1, h1.2, h2, (y4k _ _ _ (y4l h1.1 h1.2)).trans (QY h1.1 h1.2)⟩
  ·rename_i h2
   rw [if_neg h2] at h
   cases h
 ·rename_i h1
  rw [if_neg h1] at h
  cases h
theorem yaV {s : List y8} (h : srt s) {x y : y8} (hx : x ∈ s) (hy : y ∈ s) (he : ZU x y = true) : x = y := by
 obtain ⟨i, hi, rfl⟩ := List.mem_iff_getElem.1 hx
 obtain ⟨j, hj, rfl⟩ := List.mem_iff_getElem.1 hy
 have hp := List.pairwise_iff_getElem.1 h
 rcases Nat.lt_trichotomy i j with h1 | h1 | h1
 ·rw [y2i (hp i j hi hj h1)] at he
  cases he
 ·subst h1
  rfl
 ·rw [y4h, y2i (hp j i hj hi h1)] at he
  cases he
end Go.Proofs.YtjllpipmaejeoaaGreat.Pl
namespace Go.Proofs.YtjllpipmaejeoaaGreat.Pl
open Go.Proofs.YtjllpipmaejeoaaGreat.R Go.Proofs.YtjllpipmaejeoaaGreat.XU
def y1K (fr id : Int) (x : ya) : ya := if (x.2 == id) = true then (x.1, fr) else x
def yAr (l : List ya) (i : Nat) (id : Int) : List ya := (l.map (y1K (l.getD i zA).2 id)).eraseIdx i
def y4m (l : List ya) (id : Int) : List ya × Bool := if zJ l id < 0 then (l, false) else if jF l = true then (yAr l (zJ l id).toNat id, true) else (l, false)
theorem y3o {A : Type} (p : A → Bool) : ∀ (l : List A) (i : Int), zQ p l i = -1 ∨ i ≤ zQ p l i ∧ zQ p l i < i + l.length
 | [], _ => .inl rfl
 | a :: l, i => by
  rw [zQ]
  split
  ·refine .inr ⟨Int.le_refl _, by simp only [List.length_cons]; omega⟩
  ·rcases y3o p l (i + 1) with h | ⟨h1, h2⟩
   ·exact .inl h
   ·exact .inr ⟨by omega, by simp only [List.length_cons]; omega⟩
theorem y58 (l : List ya) (id : Int) (hl : l.length ≤ 1048576) : JM (l, id) = some (y4m l id) := by
 unfold JM y4m
 simp only [Zf l id (by omega), K4 l hl, Option.bind_some]
 by_cases h0 : zJ l id < 0
 ·rw [decide_eq_true h0, if_pos h0]
  simp only [cond_true, Option.bind_some]
  rw [if_pos (by simp only [List.length_nil]; omega)]
  rfl
 ·rw [decide_eq_false h0, if_neg h0]
  cases hA : jF l with
  | false =>
   simp only [cond_false, Bool.not_false, Option.bind_some, cond_true]
   rw [if_pos (by simp only [List.length_nil]; omega)]
   rfl
  | true =>
   simp only [cond_false, Bool.not_true, Option.bind_some, if_true]
   have hi1 : zJ l id < (l.length : Int) := by
    rcases y3o (fun a : ya => a.1 == id) l 0 with h | ⟨h1, h2⟩
    ·have : zJ l id = -1 := h
     omega
    ·have : zJ l id = zQ (fun a : ya => a.1 == id) l 0 := rfl
     omega
   generalize zJ l id = i at h0 hi1
   unfold Qw
   have key := YM (step := Wx (fun x4 => some (x4, true))) (fun x : List ya × Int × Int × Int × List ya => l.length - x.2.2.2.1.toNat) (fun x => x.1 = l ∧ x.2.1 = id ∧ x.2.2.1 = i ∧ 0 ≤ x.2.2.2.1 ∧ x.2.2.2.1 ≤ (l.length : Int) ∧ x.2.2.2.2.length ≤ x.2.2.2.1.toNat)
    (fun x => some (x.2.2.2.2 ++ (if x.2.2.2.1 ≤ i then ((l.drop x.2.2.2.1.toNat).map (y1K (l.getD i.toNat zA).2 id)).eraseIdx (i - x.2.2.2.1).toNat else (l.drop x.2.2.2.1.toNat).map (y1K (l.getD i.toNat zA).2 id)), true)) ?_ (l, id, i, 0, []) ⟨rfl, rfl, rfl, Int.le_refl _, by simp, by simp⟩ (by simp; omega)
   ·rw [key]
    simp only [List.nil_append]
    rw [if_pos (by omega), Int.sub_zero]
    rfl
   ·rintro again ⟨l', id', i', j, o⟩ ⟨rfl, rfl, rfl, j0, j1, ho⟩ hag
    simp only at j0 j1 ho hl hi1 h0 ⊢
    unfold Wx
    by_cases hj : j < (l'.length : Int)
    ·have hw : Go.IntKind.wrap .i64 (j + 1) = j + 1 := w64 (by omega) (by omega)
     have hd := wB zA l' j j0 hj
     have e1 : (j + 1).toNat = j.toNat + 1 := by omega
     have hlen : ∀ y : ya, (List.length o + List.length ([y] : List ya)) * 16 < 140737488355328 := fun y => by simp only [List.length_cons, List.length_nil]; omega
     have hstep : ∀ y, y = y1K (l'.getD i'.toNat zA).2 id' (l'.getD j.toNat zA) → (bif (j != i') then if (List.length o + List.length ([y] : List ya)) * 16 < 140737488355328 then again (l', id', i', j + 1, o ++ [y]) else none else again (l', id', i', j + 1, o)) = some (o ++ (if j ≤ i' then ((l'.drop j.toNat).map (y1K (l'.getD i'.toNat zA).2 id')).eraseIdx (i' - j).toNat else (l'.drop j.toNat).map (y1K (l'.getD i'.toNat zA).2 id')), true) := by
      rintro y rfl
      rw [hd, List.map_cons]
      by_cases hji : j = i'
      ·rw [show (j != i') = false by simp [hji], cond_false, if_pos (by omega), show (i' - j).toNat = 0 by omega, List.eraseIdx_zero, List.tail_cons]
       have := hag (l', id', i', j + 1, o) ⟨rfl, rfl, rfl, by simp only; omega, by simp only; omega, by simp only; omega⟩ (by simp only; omega)
       rw [this]
       simp only
       rw [if_neg (by omega)]
      ·rw [show (j != i') = true by simpa using hji, cond_true, if_pos (hlen _)]
       have := hag (l', id', i', j + 1, o ++ [y1K (l'.getD i'.toNat zA).2 id' (l'.getD j.toNat zA)]) ⟨rfl, rfl, rfl, by simp only; omega, by simp only; omega, by simp only [List.length_append, List.length_cons, List.length_nil]; omega⟩ (by simp only; omega)
       rw [this]
       simp only
       by_cases hlt : j ≤ i'
       ·rw [if_pos hlt, if_pos (by omega), show (i' - j).toNat = (i' - (j + 1)).toNat + 1 by omega, List.eraseIdx_cons_succ, List.append_assoc]
        rfl
       ·rw [if_neg hlt, if_neg (by omega), List.append_assoc]
        rfl
     have hrd : yO l' j = l'.getD j.toNat zA := rfl
     simp only [hw]
     rw [decide_eq_true hj, cond_true, if_pos j0, if_pos hj]
     by_cases hid : (l'.getD j.toNat zA).2 = id'
     ·have hb : ((yO l' j).2 == id') = true := beq_iff_eq.2 hid
      rw [hb, cond_true, if_pos (by omega), if_pos hi1]
      exact hstep _ (by unfold y1K; rw [if_pos (beq_iff_eq.2 hid)]; rfl)
     ·have hb : ((yO l' j).2 == id') = false := beq_eq_false_iff_ne.2 hid
      rw [hb, cond_false]
      exact hstep _ (by unfold y1K; rw [if_neg (by simpa using hid)]; rfl)
    ·rw [decide_eq_false hj, cond_false, List.drop_of_length_le (by omega)]
     simp
def jG (cs : List y7) (i : Int) : List y7 := if yZ cs = true ∧ 0 ≤ i ∧ i ≤ 23 ∧ (cs.getD i.toNat yo).2.1 = true then cs.set i.toNat (Int.tmod (Go.IntKind.wrap .i64 ((cs.getD i.toNat yo).1 + 1)) 1000, false, 0) else cs
theorem y1L (cs : List y7) (i : Int) : (jG cs i).length = cs.length := by
 unfold jG
 split
 ·simp
 ·rfl
theorem ZT {cs : List y7} (h : yZ cs = true) : cs.length = 24 := by
 unfold yZ at h
 simp only [Bool.and_eq_true, beq_iff_eq] at h
 omega
theorem qF {cs : List y7} {i : Int} (h : ¬ (yZ cs = true ∧ 0 ≤ i ∧ i ≤ 23 ∧ (cs.getD i.toNat yo).2.1 = true)) : jG cs i = cs := if_neg h
theorem y4n {cs : List y7} {i : Int} (h : yZ cs = true ∧ 0 ≤ i ∧ i ≤ 23 ∧ (cs.getD i.toNat yo).2.1 = true) : jG cs i = cs.set i.toNat (Int.tmod (Go.IntKind.wrap .i64 ((cs.getD i.toNat yo).1 + 1)) 1000, false, 0) := if_pos h
theorem KI (cs : List y7) (i : Int) (hc : cs.length ≤ 1048576) : ZB (cs, i) = some (jG cs i) := by
 have e1 : zX cs = some cs := by
  unfold zX
  rw [if_pos (by simp only [List.length_nil]; omega)]
  rfl
 unfold ZB
 simp only [e1, Jt cs hc, Zp, Option.bind_some]
 cases hk : yZ cs with
 | false =>
  rw [qF fun h => by rw [hk] at h; cases h.1]
  rfl
 | true =>
  have h24 := ZT hk
  have hw : Go.IntKind.wrap .i64 ((cs.length : Int) - 1) = 23 := by rw [w64 (by omega) (by omega)]; omega
  simp only [hw, cond_true, Option.bind_some]
  cases hi : inR i 0 23 with
  | false =>
   have : ¬ (0 ≤ i ∧ i ≤ 23) := fun h => by rw [zl.2 h] at hi; cases hi
   rw [qF fun h => this ⟨h.2.1, h.2.2.1⟩]
   rfl
  | true =>
   obtain ⟨i0, i1⟩ := zl.1 hi
   rw [cond_true, if_pos i0, if_pos (by omega)]
   have hrd : ym cs i = cs.getD i.toNat yo := rfl
   rw [hrd]
   cases hu : (cs.getD i.toNat yo).2.1 with
   | false =>
    rw [qF fun h => by have := h.2.2.2; rw [hu] at this; cases this]
    rfl
   | true =>
    simp only [Option.bind_some, cond_true]
    rw [if_pos i0, if_pos (by omega), if_pos i0, if_pos (by omega), y4n ⟨hk, i0, i1, hu⟩]
theorem y2V (cs : List y7) (i : Int) (hc : cs.length ≤ 1048576) : ZQ (cs, i) = some (jG cs i) := by
 have e1 : zz cs = some cs := by
  unfold zz
  rw [if_pos (by simp only [List.length_nil]; omega)]
  rfl
 unfold ZQ
 simp only [e1, vR cs hc, YN, Option.bind_some]
 cases hk : yZ cs with
 | false =>
  rw [qF fun h => by rw [hk] at h; cases h.1]
  rfl
 | true =>
  have h24 := ZT hk
  simp only [Bool.not_true, cond_false, Option.bind_some]
  cases hi : inR i 0 23 with
  | false =>
   have : ¬ (0 ≤ i ∧ i ≤ 23) := fun h => by rw [zl.2 h] at hi; cases hi
   rw [qF fun h => this ⟨h.2.1, h.2.2.1⟩]
   rfl
  | true =>
   obtain ⟨i0, i1⟩ := zl.1 hi
   rw [Bool.not_true, cond_false, if_pos i0, if_pos (by omega)]
   have hrd : ym cs i = cs.getD i.toNat yo := rfl
   rw [hrd]
   cases hu : (cs.getD i.toNat yo).2.1 with
   | false =>
    rw [qF fun h => by have := h.2.2.2; rw [hu] at this; cases this]
    rfl
   | true =>
    simp only [Option.bind_some, Bool.not_true, cond_false]
    rw [if_pos i0, if_pos (by omega), if_pos i0, if_pos (by omega), y4n ⟨hk, i0, i1, hu⟩]
end Go.Proofs.YtjllpipmaejeoaaGreat.Pl
namespace Go.Proofs.YtjllpipmaejeoaaGreat.Pl
open Go.Proofs.YtjllpipmaejeoaaGreat.R Go.Proofs.YtjllpipmaejeoaaGreat.XU
def yf9 (l : List ya) (vs : List ye) (id : Int) : Bool := y90 vs id && ((Y8 l id).length : Int) == 1
def jM (q : List Int) (t : List y0) (l : List ya) (vs : List ye) (step : Int) (k : y8) : Bool :=
 if step = 1 then !yaN t l vs k else if step = 2 then (k.2.2.1 == 2) && !(ybT t l k.1 k.2.1).1 else
  yf9 l vs k.2.1 && !(kQ q t k.1 ((Y8 l k.2.1).getD 0 0)).2.2.2.2.2
theorem ygU (l : List ya) (id : Int) : ∀ x ∈ Y8 l id, ∃ a ∈ l, a.1 = x := by
 have : ∀ (l : List ya) (s : List Int) (x : Int), x ∈ l.foldl (qa id) s → x ∈ s ∨ ∃ a ∈ l, a.1 = x := by
  intro l
  induction l with
  | nil => intro s x h; exact .inl h
  | cons a l ih =>
   intro s x h
   rw [List.foldl_cons] at h
   rcases ih _ x h with h | ⟨b, hb, e⟩
   ·unfold qa at h
    split at h
    ·rcases List.mem_append.1 h with h | h
     ·exact .inl h
     ·exact .inr ⟨a, by simp, (by simpa using h : x = a.1).symm⟩
    ·exact .inl h
   ·exact .inr ⟨b, by simp [hb], e⟩
 intro x hx
 rcases this l [] x hx with h | h
 ·simp at h
 ·exact h
theorem yc1 {A : Type} {p : A → Bool} : ∀ (l : List A) (i : Int), Ym (fun _ a => p a) l i = false → ∀ a ∈ l, p a = false
 | b :: l, i, h, a, ha => by
  rw [Ym, Bool.or_eq_false_iff] at h
  rcases List.mem_cons.1 ha with rfl | ha
  ·exact h.1
  ·exact yc1 l (i + 1) h.2 a ha
theorem ygV {l : List ya} (h : jF l = true) : ∀ a ∈ l, 1 ≤ a.1 := by
 unfold jF y2T at h
 simp only [Bool.and_eq_true, Bool.not_eq_true'] at h
 have h1 := h.1
 rw [yaM, Bool.or_eq_false_iff] at h1
 intro a ha
 have := yc1 (p := fun a : ya => !inR a.1 1 60) l 0 h1.1 a ha
 simp only [Bool.not_eq_false'] at this
 exact (zl.1 this).1
section
variable (q : List Int) (t : List y0) (l : List ya) (cs : List y7) (vs : List ye) (z : Int)
theorem y4o (ht : TOk t) (hq : q.length ≤ 1048576) (hl : l.length ≤ 1048576) (hv : vs.length ≤ 1048576) (hpos : ∀ a ∈ l, 1 ≤ a.1) (step : Int) (k1 k2 k3 k4 k5 : Int) : Ws (q, t, l, cs, vs, z, step, k1, k2, k3, k4, k5) = some (jM q t l vs step (k1, k2, k3, k4, k5)) := by
 unfold Ws jM
 simp only [Bool.cond_eq_ite, beq_iff_eq, y2c q t l cs vs z k1 k2 k3 k4 k5 ht hl hv, y1C q t l k1 k2 ht hl, Option.bind_some]
 by_cases h1 : step = 1
 ·simp only [h1, if_true]
 by_cases h2 : step = 2
 ·subst h2
  simp only [if_true, if_neg (show ¬ (2 : Int) = 1 by omega)]
  by_cases h3 : k3 = 2
  ·have : (k3 == 2) = true := by simp [h3]
   rw [this, if_pos h3]
   rfl
  ·have : (k3 == 2) = false := by simpa using h3
   rw [this, if_neg h3]
   rfl
 simp only [h1, h2, if_false]
 unfold K0 Z4 yf9
 simp only [K5 l k2 hl, QT q t l cs vs z k2 hv, Option.bind_some]
 cases y90 vs k2
 ·rfl
 by_cases hk : ((Y8 l k2).length : Int) = 1
 ·have g1 : (((Y8 l k2).length : Int) != 1) = false := by simp [hk]
  have g2 : (((Y8 l k2).length : Int) == 1) = true := by simp [hk]
  have hlt : (0 : Int) < ((Y8 l k2).length : Int) := by omega
  have hne : ((Y8 l k2).getD 0 0 == 0) = false := by
   have hm : (Y8 l k2).getD 0 0 ∈ Y8 l k2 := ze 0 (Y8 l k2) 0 (Int.le_refl _) hlt
   obtain ⟨a, ha, e⟩ := ygU l k2 _ hm
   have := hpos a ha
   simp only [beq_eq_false_iff_ne, ne_eq]
   omega
  have hx : zu (Y8 l k2) 0 = (Y8 l k2).getD 0 0 := rfl
  simp only [g1, g2, hlt, Bool.not_true, cond_false, cond_true, Option.bind_some, Int.le_refl, if_true, hx, hne, K6 q t k1 _ ht hq, Bool.true_and, Bool.and_self, Bool.and_true, Bool.true_and]
 ·have g1 : (((Y8 l k2).length : Int) != 1) = true := by simpa using hk
  have g2 : (((Y8 l k2).length : Int) == 1) = false := by simpa using hk
  simp only [g1, g2]
  rfl
def ygW (id : Int) (_ : Int) (k : y8) : Bool := k.2.1 == id
def ym2 (ks : List y8) (l : List ya) (vs : List ye) (a : ya) : Bool := !Ym (ygW a.1) ks 0 && (y90 vs a.1 && decide (((Y8 l a.1).length : Int) ≤ 1))
theorem yaW (ht : TOk t) (hl : l.length ≤ 1048576) (hv : vs.length ≤ 1048576) (a : ya) : Wv (q, t, l, cs, vs, z, a.1) = some (ym2 (yn t) l vs a) := by
 unfold Wv Qv ym2
 have hk := ht.keys
 have e : yM (q, t) = some (yn t) := Ys q t (by have := ht.len; omega) ht.nodes ht.sum
 simp only [e, Option.bind_some]
 generalize yn t = ks at hk
 refine (zP (step := J2 _ _) (fun i => (a.1, i, q, t, l, cs, vs, z, ks)) (ygW a.1) (some false) (some (y90 vs a.1 && decide (((Y8 l a.1).length : Int) ≤ 1))) yI ks (by omega) ?_ ?_).trans ?_
 ·intro again i h0 h1
  have hw : Go.IntKind.wrap .i64 (i + 1) = i + 1 := w64 (by omega) (by omega)
  unfold J2 ygW
  have hx : ks.getD i.toNat yI = y6 ks i := rfl
  rw [hx]
  simp only [Bool.cond_eq_ite, decide_eq_true_eq, h0, h1, if_true, hw]
 ·intro again i hi
  unfold J2
  simp only [Bool.cond_eq_ite, decide_eq_true_eq, if_neg hi, QT q t l cs vs z a.1 hv, K5 l a.1 hl, Option.bind_some]
  cases y90 vs a.1 <;> rfl
 ·cases Ym (ygW a.1) ks 0 <;> rfl
def y95 (q : List Int) (t : List y0) (l : List ya) (vs : List ye) (_ : Int) (_ : Unit) (step : Int) : Except (Option (Int × Int)) Unit :=
 if zQ (jM q t l vs step) (yn t) 0 < 0 then .ok () else .error (some (step, zQ (jM q t l vs step) (yn t) 0))
def y3p (t : List y0) (l : List ya) (vs : List ye) : Int × Int :=
 if zQ (ym2 (yn t) l vs) l 0 < 0 then (0, 0) else (4, zQ (ym2 (yn t) l vs) l 0)
def yaX (q : List Int) (t : List y0) (l : List ya) (cs : List y7) (vs : List ye) (z : Int) : Option (Int × Int) :=
 if yr q t l cs vs z = true then y8K (y95 q t l vs) (fun _ => some (y3p t l vs)) ([1, 2, 3] : List Int) 0 () else some (0, 0)
theorem yxH (i : Int) (h0 : 0 ≤ i) (h1 : i < 3) : ([1, 2, 3] : List Int).getD i.toNat 0 = i + 1 := by
 have : i = 0 ∨ i = 1 ∨ i = 2 := by omega
 rcases this with rfl | rfl | rfl <;> rfl
theorem y96 (ht : TOk t) (hq : q.length ≤ 1048576) (hl : l.length ≤ 1048576) (hc : cs.length ≤ 1048576) (hv : vs.length ≤ 1048576) (hvn : ∀ v ∈ vs, ByteArray.size v.1 ≤ maxLen) : J3 (q, t, l, cs, vs, z) = yaX q t l cs vs z := by
 unfold J3 yaX
 have hk := ht.keys
 have e : yM (q, t) = some (yn t) := Ys q t (by have := ht.len; omega) ht.nodes ht.sum
 simp only [y0L q t l cs vs z ht hl hc hv hvn, e, Option.bind_some]
 cases hp : yr q t l cs vs z
 ·rfl
 have hpos : ∀ a ∈ l, 1 ≤ a.1 := by
  refine ygV ?_
  unfold yr at hp
  simp only [Bool.and_eq_true] at hp
  exact hp.2.1
 simp only [Bool.not_true, cond_false, if_true]
 unfold VM
 refine y8L (step := ZD _ _) (fun i (_ : Unit) => (i + 1, q, t, l, cs, vs, z, yn t)) (y95 q t l vs) (fun _ => some (y3p t l vs)) 0 ([1, 2, 3] : List Int) (by decide) (fun _ _ => True) (fun again i s h0 h1 _ => ⟨?_, fun _ _ => trivial⟩) ?_ () trivial
 ·have h1' : i < 3 := h1
  rw [yxH i h0 h1']
  have hw : Go.IntKind.wrap .i64 (i + 1 + 1) = i + 1 + 1 := w64 (by omega) (by omega)
  unfold ZD y95
  have hle : i + 1 ≤ 3 := by omega
  simp only [Bool.cond_eq_ite, decide_eq_true_eq, hle, if_true]
  unfold VL
  refine (Ze (step := ZC _ _) (fun j => (i + 1, j, q, t, l, cs, vs, z, yn t)) (jM q t l vs (i + 1)) (fun j => some (i + 1, j)) (again (i + 1 + 1, q, t, l, cs, vs, z, yn t)) yI (yn t) (by omega) ?_ ?_).trans ?_
  ·intro again' j j0 j1
   have hwj : Go.IntKind.wrap .i64 (j + 1) = j + 1 := w64 (by omega) (by omega)
   unfold ZC
   obtain ⟨⟨x1, x2, x3, x4, x5⟩, hx⟩ : ∃ x, y6 (yn t) j = x := ⟨_, rfl⟩
   have hx' : (yn t).getD j.toNat yI = (x1, x2, x3, x4, x5) := hx
   rw [hx']
   simp only [Bool.cond_eq_ite, decide_eq_true_eq, j0, j1, if_true, hwj, hx, y4o q t l cs vs z ht hq hl hv hpos (i + 1) x1 x2 x3 x4 x5, Option.bind_some]
  ·intro again' j hj
   unfold ZC
   simp only [Bool.cond_eq_ite, decide_eq_true_eq, if_neg hj, hw]
  ·split <;> rfl
 ·intro again i s hi
  have hi' : ¬ i < 3 := hi
  have hle : ¬ i + 1 ≤ 3 := by omega
  unfold ZD
  simp only [Bool.cond_eq_ite, decide_eq_true_eq, if_neg hle]
  unfold Vc y3p
  refine (Ze (step := Z5 _ _) (fun j => (j, q, t, l, cs, vs, z)) (ym2 (yn t) l vs) (fun j => some (4, j)) (some (0, 0)) zA l (by omega) ?_ ?_).trans ?_
  ·intro again' j j0 j1
   have hwj : Go.IntKind.wrap .i64 (j + 1) = j + 1 := w64 (by omega) (by omega)
   unfold Z5
   have hx : l.getD j.toNat zA = yO l j := rfl
   rw [hx]
   simp only [Bool.cond_eq_ite, decide_eq_true_eq, j0, j1, if_true, hwj, yaW q t l cs vs z ht hl hv (yO l j), Option.bind_some]
  ·intro again' j hj
   unfold Z5
   simp only [Bool.cond_eq_ite, decide_eq_true_eq, if_neg hj]
  ·split <;> rfl
theorem y97 {S A R : Type} (g : Int → S → A → Except (Option R) S) (k : S → Option R) (hg : ∀ i s a r, g i s a = .error r → ∃ x, r = some x) (hk : ∀ s, ∃ x, k s = some x) : ∀ (l : List A) (i : Int) (s : S), ∃ x, y8K g k l i s = some x
 | [], i, s => hk s
 | a :: l, i, s => by
  rw [y8K]
  cases h : g i s a with
  | error r => exact hg i s a r h
  | ok s' => exact y97 g k hg hk l (i + 1) s'
theorem ydb : ∃ r, yaX q t l cs vs z = some r := by
 unfold yaX
 split
 ·refine y97 _ _ (fun i s a r h => ?_) (fun s => ⟨_, rfl⟩) _ _ _
  unfold y95 at h
  split at h
  ·cases h
  ·injection h with h
   exact ⟨_, h.symm⟩
 ·exact ⟨_, rfl⟩
end
end Go.Proofs.YtjllpipmaejeoaaGreat.Pl
namespace Go.Proofs.YtjllpipmaejeoaaGreat.Pl
open Go.Proofs.YtjllpipmaejeoaaGreat.R Go.Proofs.YtjllpipmaejeoaaGreat.XU
structure SP (q : List yb) (t : List y0) (l : List ya) (cs : List y7) (vs : List ye) : Prop where
 S : small q t l cs vs
 N : ∀ v ∈ vs, ByteArray.size v.1 ≤ maxLen
structure TQ (q : List yb) (t : List y0) : Prop where
 T : TOk t
 Q : ∀ n ∈ t, y2U n
 q : q.length ≤ 1048576
theorem SP.tq {q : List yb} {t : List y0} {l : List ya} {cs : List y7} {vs : List ye} (h : SP q t l cs vs) : TQ q t :=
 ⟨⟨h.S.2.1, fun n hn => by have := (KU h.S.2.2.1 hn).1; omega, h.S.2.2.1⟩, fun n hn => KU h.S.2.2.1 hn, h.S.1⟩
theorem TQ.sp {q q' : List yb} {t t' : List y0} {l l' : List ya} {cs cs' : List y7} {vs : List ye} (h : TQ q' t') (h2 : SP q t l cs vs) (hl : l'.length ≤ 1048576) (hc : cs'.length ≤ 1048576) : SP q' t' l' cs' vs :=
 ⟨⟨h.q, h.T.len, h.T.sum, hl, hc, h2.S.2.2.2.2.2⟩, h2.N⟩
theorem TS.tq {q : List yb} {t : List y0} (h : TS t) (hq : q.length ≤ 1048576) : TQ q t := ⟨h.ok, fun n hn => (h.node n hn).q, hq⟩
theorem KV {q : List yb} {t : List y0} (k : y8) (h : TQ q t) : TQ (yB q t k).1 (yB q t k).2.1 := by
 unfold yB
 split
 ·rename_i hh
  rw [Bool.and_eq_true] at hh
  split
  ·rename_i hj
   have hT := QV hj
   have := (jw hj)
   exact hT.tq (by simp only; omega)
  ·exact h
 ·exact h
def y2j (k : y8) : y8 := (k.1, k.2.1, 0, 0, 0)
def y4p (q : List yb) (t : List y0) (cs : List y7) (k : y8) : List y7 := if (kQ q t k.1 k.2.1).2.2.2.2.2 = true ∧ (kQ q t k.1 k.2.1).2.2.1 = 1 then jG cs (kQ q t k.1 k.2.1).2.2.2.1 else cs
theorem yaY (q : List yb) (t : List y0) (cs : List y7) (k : y8) : (y4p q t cs k).length = cs.length := by
 unfold y4p
 split
 ·exact y1L _ _
 ·rfl
abbrev PO : Type := List yb × List y0 × List ya × List y7 × List ye × Int
section
variable (q : List yb) (t : List y0) (l : List ya) (cs : List y7) (vs : List ye) (z : Int)
def JA (t : List y0) (i : Int) : y8 := (yn t).getD i.toNat yI
def wM (step i : Int) : PO × Bool :=
 if step = 1 ∨ step = 2 then (((yB q t (y2j (JA t i))).1, (yB q t (y2j (JA t i))).2.1, l, y4p q t cs (JA t i), vs, z), (yB q t (y2j (JA t i))).2.2)
 else if step = 3 then
  (((yB (yB q t (y2j (JA t i))).1 (yB q t (y2j (JA t i))).2.1 ((JA t i).1, (Y8 l (JA t i).2.1).getD 0 0, (JA t i).2.2)).1,
   (yB (yB q t (y2j (JA t i))).1 (yB q t (y2j (JA t i))).2.1 ((JA t i).1, (Y8 l (JA t i).2.1).getD 0 0, (JA t i).2.2)).2.1, l, cs, vs, z),
   (yB q t (y2j (JA t i))).2.2 && (yB (yB q t (y2j (JA t i))).1 (yB q t (y2j (JA t i))).2.1 ((JA t i).1, (Y8 l (JA t i).2.1).getD 0 0, (JA t i).2.2)).2.2)
 else ((q, t, (y4m l (l.getD i.toNat zA).1).1, cs, vs, z), (y4m l (l.getD i.toNat zA).1).2)
noncomputable def y0t (p : PO) : Bool := yr p.1 p.2.1 p.2.2.1 p.2.2.2.1 p.2.2.2.2.1 p.2.2.2.2.2
noncomputable def y9B (p : PO) (r : PO × Bool) : PO × Bool := if (r.2 && y0t r.1) = true then (r.1, true) else (p, false)
noncomputable def y98 : PO × Bool := match yaX q t l cs vs z with
 | some (step, i) => if step = 0 then ((q, t, l, cs, vs, z), false) else y9B (q, t, l, cs, vs, z) (wM q t l cs vs z step i)
 | none => ((q, t, l, cs, vs, z), false)
def y59 (r : PO × Bool) : List yb × List y0 × List ya × List y7 × List ye × Int × Bool := (r.1.1, r.1.2.1, r.1.2.2.1, r.1.2.2.2.1, r.1.2.2.2.2.1, r.1.2.2.2.2.2, r.2)
theorem ydc {step i : Int} (h : yaX q t l cs vs z = some (step, i)) : step = 0 ∨ ((step = 1 ∨ step = 2 ∨ step = 3) ∧ 0 ≤ i ∧ i < ((yn t).length : Int) ∧ jM q t l vs step (JA t i) = true) ∨ (step = 4 ∧ 0 ≤ i ∧ i < (l.length : Int)) := by
 have hfind : ∀ s, (s = 1 ∨ s = 2 ∨ s = 3) → ¬ zQ (jM q t l vs s) (yn t) 0 < 0 → (step, i) = (s, zQ (jM q t l vs s) (yn t) 0) → step = 0 ∨ ((step = 1 ∨ step = 2 ∨ step = 3) ∧ 0 ≤ i ∧ i < ((yn t).length : Int) ∧ jM q t l vs step (JA t i) = true) ∨ (step = 4 ∧ 0 ≤ i ∧ i < (l.length : Int)) := by
  intro s hs h0 he
  injection he with h1 h2
  subst h1 h2
  rcases YE (jM q t l vs step) yI (yn t) 0 (Int.le_refl _) with h | ⟨h1, h2, h3⟩
  ·omega
  ·rw [Int.sub_zero] at h3
   exact .inr (.inl ⟨hs, h1, by omega, h3⟩)
 unfold yaX at h
 split at h
 ·simp only [y8K, y95] at h
  by_cases h1 : zQ (jM q t l vs 1) (yn t) 0 < 0
  ·simp only [if_pos h1] at h
   by_cases h2 : zQ (jM q t l vs 2) (yn t) 0 < 0
   ·simp only [if_pos h2] at h
    by_cases h3 : zQ (jM q t l vs 3) (yn t) 0 < 0
    ·simp only [if_pos h3] at h
     injection h with h
     unfold y3p at h
     split at h
     ·injection h with h4 h5
      exact .inl h4.symm
     ·rename_i h4
      injection h with h5 h6
      rcases y3o (ym2 (yn t) l vs) l 0 with h | ⟨h7, h8⟩
      ·omega
      ·exact .inr (.inr ⟨h5.symm, by omega, by omega⟩)
    ·simp only [if_neg h3] at h
     injection h with h
     exact hfind 3 (by simp) h3 h.symm
   ·simp only [if_neg h2] at h
    injection h with h
    exact hfind 2 (by simp) h2 h.symm
  ·simp only [if_neg h1] at h
   injection h with h
   exact hfind 1 (by simp) h1 h.symm
 ·injection h with h
  injection h with h1 h2
  exact .inl h1.symm
variable {q t l cs vs} (h : SP q t l cs vs)
include h
theorem yfa (step i : Int) : SP (wM q t l cs vs z step i).1.1 (wM q t l cs vs z step i).1.2.1 (wM q t l cs vs z step i).1.2.2.1 (wM q t l cs vs z step i).1.2.2.2.1 (wM q t l cs vs z step i).1.2.2.2.2.1 := by
 have hl := h.S.2.2.2.1
 have hc := h.S.2.2.2.2.1
 unfold wM
 split
 ·exact (KV _ h.tq).sp h hl (by rw [yaY]; exact hc)
 ·split
  ·exact (KV _ (KV _ h.tq)).sp h hl hc
  ·refine h.tq.sp h ?_ hc
   unfold y4m
   split
   ·exact hl
   ·split
    ·unfold yAr
     exact Nat.le_trans (List.length_eraseIdx_le _ _) (by simpa using hl)
    ·exact hl
theorem y99 (a b c d e : Int) : Zm (q, t, l, cs, vs, z, a, b, c, d, e) = some (if (yB q t (a, b, 0, 0, 0)).2.2 = true then (true, (yB q t (a, b, 0, 0, 0)).1, (yB q t (a, b, 0, 0, 0)).2.1, l, y4p q t cs (a, b, c, d, e), vs, z) else (false, q, t, l, cs, vs, z)) := by
 have hq := h.tq
 unfold Zm zD
 simp only [K6 q t a b hq.T hq.q, Jy q t a b 0 0 0 hq.T hq.Q hq.q, Option.bind_some]
 cases hr : (yB q t (a, b, 0, 0, 0)).2.2 with
 | false => rfl
 | true =>
  unfold wo y4p
  simp only [Bool.not_true, cond_false, if_true, KI cs _ h.S.2.2.2.2.1, Option.bind_some]
  cases (kQ q t a b).2.2.2.2.2 with
  | false => rfl
  | true =>
   by_cases h1 : (kQ q t a b).2.2.1 = 1
   ·rw [if_pos ⟨rfl, h1⟩]
    simp only [h1, cond_true, Option.bind_some, beq_self_eq_true]
   ·rw [if_neg fun hh => h1 hh.2]
    simp only [cond_true, Option.bind_some, beq_eq_false_iff_ne.2 h1, cond_false]
theorem Zq : yJ (q, t, l, cs, vs, z) = some (yr q t l cs vs z) := y0L q t l cs vs z h.tq.T h.S.2.2.2.1 h.S.2.2.2.2.1 h.S.2.2.2.2.2 h.N
theorem jC : zG (q, t, l, cs, vs, z) = some (yr q t l cs vs z) := y55 q t l cs vs z h.tq.T h.S.2.2.2.1 h.S.2.2.2.2.1 h.S.2.2.2.2.2 h.N
end
end Go.Proofs.YtjllpipmaejeoaaGreat.Pl
namespace Go.Proofs.YtjllpipmaejeoaaGreat.Pl
open Go.Proofs.YtjllpipmaejeoaaGreat.R Go.Proofs.YtjllpipmaejeoaaGreat.XU
theorem ygX : (((0 : Int)) == 0) = true := rfl
theorem ygY : (((0 : Int)) == 1) = false := rfl
theorem ygZ : (((0 : Int)) == 2) = false := rfl
theorem yh0 : (((0 : Int)) == 3) = false := rfl
theorem yh1 : (((0 : Int)) == 4) = false := rfl
theorem yh2 : (((1 : Int)) == 0) = false := rfl
theorem yh3 : (((1 : Int)) == 1) = true := rfl
theorem yh4 : (((1 : Int)) == 2) = false := rfl
theorem yh5 : (((1 : Int)) == 3) = false := rfl
theorem yh6 : (((1 : Int)) == 4) = false := rfl
theorem yh7 : (((2 : Int)) == 0) = false := rfl
theorem yh8 : (((2 : Int)) == 1) = false := rfl
theorem yh9 : (((2 : Int)) == 2) = true := rfl
theorem yha : (((2 : Int)) == 3) = false := rfl
theorem yhb : (((2 : Int)) == 4) = false := rfl
theorem yhc : (((3 : Int)) == 0) = false := rfl
theorem yhd : (((3 : Int)) == 1) = false := rfl
theorem yhe : (((3 : Int)) == 2) = false := rfl
theorem yhf : (((3 : Int)) == 3) = true := rfl
theorem yhg : (((3 : Int)) == 4) = false := rfl
theorem yhh : (((4 : Int)) == 0) = false := rfl
theorem yhi : (((4 : Int)) == 1) = false := rfl
theorem yhj : (((4 : Int)) == 2) = false := rfl
theorem yhk : (((4 : Int)) == 3) = false := rfl
theorem yhl : (((4 : Int)) == 4) = true := rfl
theorem ysI : (((0 : Int)) != 0) = false := rfl
theorem yc2 : (((0 : Int)) != 3) = true := rfl
theorem ysJ : (((1 : Int)) != 0) = true := rfl
theorem yc3 : (((1 : Int)) != 3) = true := rfl
theorem ysK : (((2 : Int)) != 0) = true := rfl
theorem yc4 : (((2 : Int)) != 3) = true := rfl
theorem ysL : (((3 : Int)) != 0) = true := rfl
theorem yc5 : (((3 : Int)) != 3) = false := rfl
theorem ysM : (((4 : Int)) != 0) = true := rfl
theorem yc6 : (((4 : Int)) != 3) = true := rfl
section
variable {q : List yb} {t : List y0} {l : List ya} {cs : List y7} {vs : List ye} (z : Int) (h : SP q t l cs vs)
theorem y7Q {q' : List yb} {t' : List y0} {l' : List ya} {cs' : List y7} (ok : Bool) (h' : SP q' t' l' cs' vs) : (Option.bind (bif (!ok) then some true else Option.bind (yJ (q', t', l', cs', vs, z)) fun r6 => some (!r6)) fun u5 => bif u5 then some (q, t, l, cs, vs, z, false) else some (q', t', l', cs', vs, z, true)) = some (y59 (y9B (q, t, l, cs, vs, z) ((q', t', l', cs', vs, z), ok))) := by
 rw [Zq z h']
 unfold y9B y0t y59
 cases ok with
 | false => rfl
 | true =>
  simp only [Option.bind_some, Bool.not_true, cond_false, Bool.true_and]
  cases yr q' t' l' cs' vs z <;> rfl
include h
theorem y2k : Y5 (q, t, l, cs, vs, z) = some (y59 (y98 q t l cs vs z)) := by
 have hq := h.tq
 have hl := h.S.2.2.2.1
 have hc := h.S.2.2.2.2.1
 have hv := h.S.2.2.2.2.2
 obtain ⟨⟨step, i⟩, hn⟩ := ydb q t l cs vs z
 have eK : yM (q, t) = some (yn t) := Ys q t (by have := hq.T.len; omega) hq.T.nodes hq.T.sum
 unfold Y5
 simp only [WZ q t l cs vs z h.S, y96 q t l cs vs z hq.T hq.q hl hc hv h.N, hn, eK, Option.bind_some]
 have hp : y98 q t l cs vs z = if step = 0 then ((q, t, l, cs, vs, z), false) else y9B (q, t, l, cs, vs, z) (wM q t l cs vs z step i) := by
  unfold y98
  rw [hn]
 have erd : y6 (yn t) i = JA t i := rfl
 have h12 : ∀ s : Int, s = 1 ∨ s = 2 → (Option.bind (Zm (q, t, l, cs, vs, z, (JA t i).1, (JA t i).2.1, (JA t i).2.2.1, (JA t i).2.2.2.1, (JA t i).2.2.2.2)) fun r4 => Option.bind (bif (!r4.1) then some true else Option.bind (yJ (r4.2.1, r4.2.2.1, r4.2.2.2.1, r4.2.2.2.2.1, r4.2.2.2.2.2.1, r4.2.2.2.2.2.2)) fun r6 => some (!r6)) fun u5 => bif u5 then some (q, t, l, cs, vs, z, false) else some (r4.2.1, r4.2.2.1, r4.2.2.2.1, r4.2.2.2.2.1, r4.2.2.2.2.2.1, r4.2.2.2.2.2.2, true)) = some (y59 (y9B (q, t, l, cs, vs, z) (wM q t l cs vs z s i))) := by
  intro s hs
  have hT := yfa z h s i
  unfold wM at hT ⊢
  rw [if_pos hs] at hT ⊢
  rw [y99 z h]
  change Option.bind (some (if (yB q t (y2j (JA t i))).2.2 = true then _ else _)) _ = _
  cases hr : (yB q t (y2j (JA t i))).2.2 with
  | false => rfl
  | true => exact y7Q z true hT
 rcases ydc q t l cs vs z hn with rfl | ⟨hs, i0, i1, hk⟩ | ⟨rfl, i0, i1⟩
 ·rw [hp, if_pos rfl]
  rfl
 ·rcases hs with rfl | rfl | rfl
  ·rw [hp, if_neg (show ¬ ((1 : Int) = 0) by decide)]
   simp only [ygX, ygY, ygZ, yh0, yh1, yh2, yh3, yh4, yh5, yh6, yh7, yh8, yh9, yha, yhb, yhc, yhd, yhe, yhf, yhg, yhh, yhi, yhj, yhk, yhl, ysI, yc2, ysJ, yc3, ysK, yc4, ysL, yc5, ysM, yc6, cond_true, cond_false, erd]
   rw [if_pos i0, if_pos i1]
   exact h12 1 (.inl rfl)
  ·rw [hp, if_neg (show ¬ ((2 : Int) = 0) by decide)]
   simp only [ygX, ygY, ygZ, yh0, yh1, yh2, yh3, yh4, yh5, yh6, yh7, yh8, yh9, yha, yhb, yhc, yhd, yhe, yhf, yhg, yhh, yhi, yhj, yhk, yhl, ysI, yc2, ysJ, yc3, ysK, yc4, ysL, yc5, ysM, yc6, cond_true, cond_false, erd]
   rw [if_pos i0, if_pos i1]
   exact h12 2 (.inr rfl)
  ·rw [hp, if_neg (show ¬ ((3 : Int) = 0) by decide)]
   have hT := yfa z h 3 i
   unfold wM at hT ⊢
   rw [if_neg (show ¬ ((3 : Int) = 1 ∨ (3 : Int) = 2) by decide), if_pos (show (3 : Int) = 3 from rfl)] at hT ⊢
   simp only [ygX, ygY, ygZ, yh0, yh1, yh2, yh3, yh4, yh5, yh6, yh7, yh8, yh9, yha, yhb, yhc, yhd, yhe, yhf, yhg, yhh, yhi, yhj, yhk, yhl, ysI, yc2, ysJ, yc3, ysK, yc4, ysL, yc5, ysM, yc6, cond_true, cond_false, erd]
   rw [if_pos i0, if_pos i1]
   obtain ⟨⟨a, b, c, d, e⟩, hx⟩ : ∃ x, JA t i = x := ⟨_, rfl⟩
   rw [hx] at hk hT ⊢
   have h1 := KV (a, b, 0, 0, 0) hq
   have hone : y90 vs b = true ∧ ((Y8 l b).length : Int) = 1 := by
    unfold jM yf9 at hk
    rw [if_neg (show ¬ (3 : Int) = 1 by decide), if_neg (show ¬ (3 : Int) = 2 by decide)] at hk
    simp only [Bool.and_eq_true, beq_iff_eq] at hk
    exact hk.1
   have eKid : Z4 (q, t, l, cs, vs, z, b) = some ((Y8 l b).getD 0 0) := by
    unfold Z4
    simp only [K5 l b hl, QT q t l cs vs z b hv, hone.1, Bool.not_true, cond_false, Option.bind_some]
    rw [show (((List.length (Y8 l b) : Nat) : Int) != 1) = false by rw [hone.2]; rfl, cond_false, if_pos (by omega), if_pos (by omega)]
    rfl
   simp only [y2j] at hT ⊢
   simp only [Jy q t a b 0 0 0 hq.T hq.Q hq.q, eKid, Option.bind_some]
   rw [Jy _ _ a ((Y8 l b).getD 0 0) c d e h1.T h1.Q h1.q]
   simp only [Option.bind_some]
   cases (yB q t (a, b, 0, 0, 0)).2.2 with
   | false => rfl
   | true =>
    simp only [cond_true, Option.bind_some, Bool.true_and]
    exact y7Q z _ hT
 ·rw [hp, if_neg (show ¬ ((4 : Int) = 0) by decide)]
  have hT := yfa z h 4 i
  unfold wM at hT ⊢
  rw [if_neg (show ¬ ((4 : Int) = 1 ∨ (4 : Int) = 2) by decide), if_neg (show ¬ (4 : Int) = 3 by decide)] at hT ⊢
  simp only [ygX, ygY, ygZ, yh0, yh1, yh2, yh3, yh4, yh5, yh6, yh7, yh8, yh9, yha, yhb, yhc, yhd, yhe, yhf, yhg, yhh, yhi, yhj, yhk, yhl, ysI, yc2, ysJ, yc3, ysK, yc4, ysL, yc5, ysM, yc6, cond_true, cond_false]
  rw [if_pos i0, if_pos i1, y58 l _ hl]
  simp only [Option.bind_some]
  exact y7Q z _ hT
end
end Go.Proofs.YtjllpipmaejeoaaGreat.Pl
