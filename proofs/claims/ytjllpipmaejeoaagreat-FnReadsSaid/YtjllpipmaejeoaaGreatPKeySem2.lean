/- Base, Loops, Keys, Pool, Tree, Seen, Rng, Walk, See, Oks, Whole, Trees, Names, PoolOk, PoolOk2, PoolOk3, PutPool0, SetSrt, Join, CopyPool, Next, NodePut, JoinT, TreePut, KeySem, KeySem2. No condition. -/
import Derived.Test.YtjllpipmaejeoaaGreatDR1
import Derived.Laws.BitsLemmas
set_option linter.all false
namespace Go.Proofs.YtjllpipmaejeoaaGreat.Pl
open Go.Proofs.YtjllpipmaejeoaaGreat.R Go.Proofs.YtjllpipmaejeoaaGreat.XR
theorem yjT {T R : Type} {step : (T → Option R) → T → Option R} (μ : T → Nat) (inv : T → Prop) (G : T → Option R)
  (h : ∀ again t, inv t → (∀ t', inv t' → μ t' < μ t → again t' = G t') → step again t = G t) : ∀ (n : Nat) (t : T), inv t → μ t < n → zL step n t = G t := by
 intro n
 induction n with
 | zero => intro t _ hn; omega
 | succ n ih =>
  intro t ht hn
  rw [zL]
  exact h _ t ht fun t' ht' hlt => ih t' ht' (by omega)
theorem ZH {T R : Type} {step : (T → Option R) → T → Option R} (μ : T → Nat) (inv : T → Prop) (G : T → Option R)
  (h : ∀ again t, inv t → (∀ t', inv t' → μ t' < μ t → again t' = G t') → step again t = G t) (t : T) (ht : inv t) (hn : μ t < 18446744073709551616) : zL step Y3 t = G t :=
 yjT μ inv G h Y3 t ht (by rw [y0m]; exact hn)
theorem w64 {n : Int} (h0 : -9223372036854775808 ≤ n) (h1 : n ≤ 9223372036854775807) : Go.IntKind.wrap .i64 n = n := by
 rw [IntKind.wrap_i64]
 omega
def inR (x a b : Int) : Bool := decide (a ≤ x) && decide (x ≤ b)
theorem zo {x a b : Int} : inR x a b = true ↔ a ≤ x ∧ x ≤ b := by simp [inR]
theorem ybR (n : Nat) (h : n < 9223372036854775808) : IntKind.i64.wrap (n : Int) = n := by
 rw [IntKind.wrap_i64]
 omega
theorem y9B (x : Int) : ((BitVec.ofInt 64 x).toNat : Int) = x % 18446744073709551616 := by
 rw [BitVec.toNat_ofInt]
 omega
theorem yfr (x : Int) (m : Nat) (j : Nat) (hj : j < 63) (hm : m = 2 ^ j - 1) : bits .and .i64 x m = x % (2 ^ j : Nat) := by
 have hd : (2 ^ j : Nat) ∣ 18446744073709551616 := by
  have : (18446744073709551616 : Nat) = 2 ^ j * 2 ^ (64 - j) := by rw [← Nat.pow_add, show j + (64 - j) = 64 by omega]
  rw [this]
  exact Nat.dvd_mul_right _ _
 have hlt : m < 18446744073709551616 := by
  have : 2 ^ j ≤ 2 ^ 64 := Nat.pow_le_pow_right (by omega) (by omega)
  have h1 : 0 < 2 ^ j := Nat.two_pow_pos j
  omega
 have hj63 : 2 ^ j < 9223372036854775808 := by
  have : 2 ^ j ≤ 2 ^ 62 := Nat.pow_le_pow_right (by omega) (by omega)
  omega
 show IntKind.i64.wrap ((BitVec.ofInt 64 x &&& BitVec.ofInt 64 (m : Int)).toNat : Int) = _
 rw [BitVec.toNat_and, BitVec.ofInt_natCast, BitVec.toNat_ofNat, Nat.mod_eq_of_lt hlt, hm, Nat.and_two_pow_sub_one_eq_mod]
 have h2 := Nat.mod_lt (BitVec.ofInt 64 x).toNat (Nat.two_pow_pos j)
 rw [ybR _ (by omega), Int.natCast_emod, y9B]
 exact Int.emod_emod_of_dvd _ (Int.ofNat_dvd.2 hd)
theorem yq3 (x : Int) : bits .and .i64 x 255 = x % 256 := yfr x 255 8 (by omega) (by decide)
def isBytes (l : List Int) : Prop := ∀ x ∈ l, 0 ≤ x ∧ x < 256
def by_ (l : List Int) (i : Int) : Int := l.getD i.toNat 0
theorem yaG {l : List Int} (h : isBytes l) (i : Int) : 0 ≤ by_ l i ∧ by_ l i < 256 := by
 unfold by_
 rw [List.getD_eq_getElem?_getD]
 cases hl : l[i.toNat]? with
 | none => simp
 | some x => exact h x (List.mem_of_getElem? hl)
end Go.Proofs.YtjllpipmaejeoaaGreat.Pl
namespace Go.Proofs.YtjllpipmaejeoaaGreat.Pl
open Go.Proofs.YtjllpipmaejeoaaGreat.R Go.Proofs.YtjllpipmaejeoaaGreat.XR
theorem kY {T R : Type} {step : (T → Option R) → T → Option R} (μ : T → Nat) (inv : T → Prop) (Q : T → Option R → Prop)
  (h : ∀ again t, inv t → (∀ t', inv t' → μ t' < μ t → Q t' (again t')) → Q t (step again t)) (t : T) (ht : inv t) (hn : μ t < 18446744073709551616) : Q t (zL step Y3 t) := by
 have key : ∀ (n : Nat) (t : T), inv t → μ t < n → Q t (zL step n t) := by
  intro n
  induction n with
  | zero => intro t _ hn; omega
  | succ n ih =>
   intro t ht hn
   rw [zL]
   exact h _ t ht fun t' ht' hlt => ih t' ht' (by omega)
 exact key Y3 t ht (by rw [y0m]; exact hn)
theorem y6I {A : Type} (da : A) (l : List A) (i : Int) (h0 : 0 ≤ i) (h : i < l.length) : l.getD i.toNat da = l[i.toNat]'(by omega) := by
 rw [List.getD_eq_getElem?_getD, List.getElem?_eq_getElem (by omega)]
 rfl
theorem z4 {A : Type} (da : A) (l : List A) (i : Int) (h0 : 0 ≤ i) (h : i < l.length) : l.getD i.toNat da ∈ l := by
 rw [y6I da l i h0 h]
 exact List.getElem_mem _
theorem we {A : Type} (da : A) (l : List A) (i : Int) (h0 : 0 ≤ i) (h : i < l.length) : l.drop i.toNat = l.getD i.toNat da :: l.drop (i + 1).toNat := by
 rw [y6I da l i h0 h, show (i + 1).toNat = i.toNat + 1 by omega, ← List.drop_eq_getElem_cons]
def WG {A : Type} (w : A → Int) (l : List A) : Int := l.foldr (fun a s => w a + s) 0
theorem Y1 {A : Type} (w : A → Int) (a : A) (l : List A) : WG w (a :: l) = w a + WG w l := rfl
theorem QB {A : Type} {w : A → Int} (hw : ∀ a, 0 ≤ w a) : ∀ {l : List A} {a : A}, a ∈ l → w a ≤ WG w l ∧ 0 ≤ WG w l
 | b :: l, a, h => by
  have hs : 0 ≤ WG w l := by
   clear h
   induction l with
   | nil => exact Int.le_refl _
   | cons c l ih => rw [Y1]; have := hw c; omega
  rw [Y1]
  have := hw b
  rcases List.mem_cons.1 h with rfl | h
  ·omega
  ·have := (QB hw h).1
   omega
theorem wz {A : Type} {w : A → Int} (hw : ∀ a, 0 ≤ w a) (l : List A) : 0 ≤ WG w l := by
 induction l with
 | nil => exact Int.le_refl _
 | cons c l ih => rw [Y1]; have := hw c; omega
end Go.Proofs.YtjllpipmaejeoaaGreat.Pl
namespace Go.Proofs.YtjllpipmaejeoaaGreat.Pl
open Go.Proofs.YtjllpipmaejeoaaGreat.R Go.Proofs.YtjllpipmaejeoaaGreat.XR
theorem zW {T A S R : Type} {step : (T → Option R) → T → Option R} (mk : Int → S → T) (k : S → Option R) (da : A) (g : S → A → S) (l : List A) (hl : l.length ≤ 1099511627776) (I : Nat → S → Prop)
  (h : ∀ again i s, 0 ≤ i → i < (l.length : Int) → I i.toNat s → step again (mk i s) = again (mk (i + 1) (g s (l.getD i.toNat da))) ∧ I (i.toNat + 1) (g s (l.getD i.toNat da)))
  (hd : ∀ again i s, ¬ i < (l.length : Int) → step again (mk i s) = k s) (s : S) (hs : I 0 s) : zL step Y3 (mk 0 s) = k (l.foldl g s) := by
 have key : ∀ (n : Nat) (i : Int) (s : S), 0 ≤ i → i ≤ l.length → I i.toNat s → l.length - i.toNat < n → zL step n (mk i s) = k ((l.drop i.toNat).foldl g s) := by
  intro n
  induction n with
  | zero => intro i s _ _ _ hn; omega
  | succ n ih =>
   intro i s h0 h1 hI hn
   rw [zL]
   by_cases hi : i < (l.length : Int)
   ·obtain ⟨e, hI'⟩ := h (zL step n) i s h0 hi hI
    have e1 : (i + 1).toNat = i.toNat + 1 := by omega
    rw [e, ih (i + 1) _ (by omega) (by omega) (by rw [e1]; exact hI') (by omega), we da l i h0 hi]
    rfl
   ·rw [hd _ i s hi, List.drop_of_length_le (by omega)]
    rfl
 have := key Y3 0 s (by omega) (by omega) hs (by rw [y0m]; simp; omega)
 simpa using this
def wA (c k : y7) : Bool := if c.1 < k.1 then true else if c.1 = k.1 then decide (c.2.1 < k.2.1) else false
def ZY (c k : y7) : Bool := decide (c.1 = k.1) && decide (c.2.1 = k.2.1)
theorem Qb (a1 a2 a3 a4 a5 b1 b2 b3 b4 b5 : Int) : jq (a1, a2, a3, a4, a5, b1, b2, b3, b4, b5) = some (wA (a1, a2, a3, a4, a5) (b1, b2, b3, b4, b5)) := by
 unfold jq wA
 by_cases h : a1 = b1
 ·subst h
  simp
 ·have hb : (a1 == b1) = false := by simpa using h
  have hb' : (a1 != b1) = true := by simpa using h
  by_cases h2 : a1 < b1 <;> simp [h, h2, hb, hb']
theorem Qc (a1 a2 a3 a4 a5 b1 b2 b3 b4 b5 : Int) : ju (a1, a2, a3, a4, a5, b1, b2, b3, b4, b5) = some (wA (a1, a2, a3, a4, a5) (b1, b2, b3, b4, b5)) := by
 unfold ju wA
 by_cases h : a1 = b1
 ·subst h
  simp
 ·have hb : (a1 == b1) = false := by simpa using h
  have hb' : (a1 != b1) = true := by simpa using h
  by_cases h2 : a1 < b1 <;> simp [h, h2, hb, hb']
theorem y2a (a1 a2 a3 a4 a5 b1 b2 b3 b4 b5 : Int) : Zm (a1, a2, a3, a4, a5, b1, b2, b3, b4, b5) = some (ZY (a1, a2, a3, a4, a5) (b1, b2, b3, b4, b5)) := by
 unfold Zm ZY
 have e1 : (a1 == b1) = decide (a1 = b1) := rfl
 have e2 : (a2 == b2) = decide (a2 = b2) := rfl
 simp only [e1, e2]
 cases decide (a1 = b1) <;> cases decide (a2 = b2) <;> rfl
theorem y2b (a1 a2 a3 a4 a5 b1 b2 b3 b4 b5 : Int) : Zt (a1, a2, a3, a4, a5, b1, b2, b3, b4, b5) = some (ZY (a1, a2, a3, a4, a5) (b1, b2, b3, b4, b5)) := by
 unfold Zt ZY
 have e1 : (a1 == b1) = decide (a1 = b1) := rfl
 have e2 : (a2 == b2) = decide (a2 = b2) := rfl
 simp only [e1, e2]
 cases decide (a1 = b1) <;> cases decide (a2 = b2) <;> rfl
theorem yqH {n k : Nat} (h : n ≤ 1073741825) (hk : (1073741825 + k) * 40 < 140737488355328) : (n + k) * 40 < 140737488355328 := by omega
def jz (k : y7) (s : Bool × List y7) (c : y7) : Bool × List y7 :=
 if s.1 = false ∧ wA c k = false then (true, if ZY c k then s.2 ++ [k] else s.2 ++ [k] ++ [c]) else (s.1, if ZY c k then s.2 else s.2 ++ [c])
def Yb (l : List y7) (k : y7) : List y7 :=
 let r := l.foldl (jz k) (false, [])
 if r.1 then r.2 else r.2 ++ [k]
def pN (p : Bool) : Nat := if p then 1 else 0
theorem y3n (k : y7) (s : Bool × List y7) (c : y7) : (jz k s c).2.length + pN s.1 ≤ s.2.length + 1 + pN (jz k s c).1 ∧ pN (jz k s c).1 ≤ 1 := by
 unfold jz pN
 obtain ⟨p, o⟩ := s
 cases p <;> cases wA c k <;> cases ZY c k <;> simp
theorem QC (k : y7) : ∀ (l : List y7) (s : Bool × List y7), (l.foldl (jz k) s).2.length + pN s.1 ≤ s.2.length + l.length + pN (l.foldl (jz k) s).1
 | [], s => by simp
 | c :: l, s => by
  have h1 := (y3n k s c).1
  have h2 := QC k l (jz k s c)
  simp only [List.foldl_cons, List.length_cons] at h2 ⊢
  omega
theorem wP (l : List y7) (k : y7) : (Yb l k).length ≤ l.length + 1 := by
 have h := QC k l (false, [])
 unfold Yb
 simp only [pN, List.length_nil, Bool.false_eq_true, if_false] at h ⊢
 cases hr : (l.foldl (jz k) (false, [])).1 with
 | true =>
  rw [hr] at h
  simp at h ⊢
  omega
 | false =>
  rw [hr] at h
  simp at h ⊢
  omega
theorem y2c {R : Type} (k0 : Bool × Int × Int × Int × Int × Int × List y7 → Option R) (again : W2 → Option R) (l : List y7) (i : Int) (p : Bool) (a b c d e : Int) (o : List y7) (hl : l.length ≤ 1073741824) (h0 : 0 ≤ i) (h1 : i < (l.length : Int)) (ho : o.length ≤ 1073741825) :
  YE k0 again (l, p, i, a, b, c, d, e, o) = again (l, (jz (a, b, c, d, e) (p, o) (l.getD i.toNat yH)).1, i + 1, a, b, c, d, e, (jz (a, b, c, d, e) (p, o) (l.getD i.toNat yH)).2) := by
 have hw : Go.IntKind.wrap .i64 (i + 1) = i + 1 := w64 (by omega) (by omega)
 have c1 : (o.length + (0 + 1)) * 40 < 140737488355328 := yqH ho (by decide)
 have c2 : (o.length + (0 + 1) + (0 + 1)) * 40 < 140737488355328 := by rw [Nat.add_assoc]; exact yqH ho (by decide)
 obtain ⟨⟨x1, x2, x3, x4, x5⟩, hx⟩ : ∃ x, y6 l i = x := ⟨_, rfl⟩
 have hx' : l.getD i.toNat yH = (x1, x2, x3, x4, x5) := hx
 rw [hx']
 unfold YE
 simp only [Bool.cond_eq_ite, decide_eq_true_eq, h0, h1, if_true, hw, hx, Qb, y2a, Option.bind_some, List.length_append, List.length_cons, List.length_nil]
 unfold jz
 generalize wA (x1, x2, x3, x4, x5) (a, b, c, d, e) = q1
 generalize ZY (x1, x2, x3, x4, x5) (a, b, c, d, e) = q2
 simp only [c1, c2, if_true]
 cases p <;> cases q1 <;> cases q2 <;> rfl
theorem y2d {R : Type} (k0 : Bool × Int × Int × Int × Int × Int × List y7 → Option R) (l : List y7) (a b c d e : Int) (hl : l.length ≤ 1073741824) :
  KD k0 (l, false, 0, a, b, c, d, e, []) = k0 ((l.foldl (jz (a, b, c, d, e)) (false, [])).1, a, b, c, d, e, (l.foldl (jz (a, b, c, d, e)) (false, [])).2) := by
 unfold KD
 refine zW (step := YE k0) (fun (i : Int) (s : Bool × List y7) => (l, s.1, i, a, b, c, d, e, s.2)) (fun s => k0 (s.1, a, b, c, d, e, s.2)) yH (jz (a, b, c, d, e)) l (by omega) (fun i s => s.2.length ≤ i + pN s.1) ?_ ?_ (false, []) (by simp)
 ·rintro again i ⟨p, o⟩ h0 h1 hI
  have hp : pN p ≤ 1 := by cases p <;> decide
  have hI' : o.length ≤ i.toNat + pN p := hI
  clear hI
  refine ⟨y2c k0 again l i p a b c d e o hl h0 h1 (by omega), ?_⟩
  have ho := (y3n (a, b, c, d, e) (p, o) (l.getD i.toNat yH)).1
  show (jz (a, b, c, d, e) (p, o) (l.getD i.toNat yH)).2.length ≤ i.toNat + 1 + pN (jz (a, b, c, d, e) (p, o) (l.getD i.toNat yH)).1
  generalize (jz (a, b, c, d, e) (p, o) (l.getD i.toNat yH)) = r at ho ⊢
  simp only at ho
  omega
 ·rintro again i ⟨p, o⟩ hi
  show YE k0 again (l, p, i, a, b, c, d, e, o) = _
  unfold YE
  simp only [Bool.cond_eq_ite, decide_eq_true_eq, if_neg hi]
theorem kJ (l : List y7) (a b c d e : Int) (hl : l.length ≤ 1073741824) : zy (l, a, b, c, d, e) = some (Yb l (a, b, c, d, e)) := by
 have hlen := QC (a, b, c, d, e) l (false, [])
 unfold zy Yb
 rw [y2d _ l a b c d e hl]
 generalize l.foldl (jz (a, b, c, d, e)) (false, []) = r at hlen ⊢
 obtain ⟨q, o⟩ := r
 cases q with
 | true => rfl
 | false =>
  simp only [pN, List.length_nil, Bool.false_eq_true, if_false] at hlen
  simp only [Bool.not_false, cond_true, List.length_cons, List.length_nil, Bool.false_eq_true, if_false]
  rw [if_pos (by omega)]
theorem y2e {R : Type} (k0 : Bool × Int × Int × Int × Int × Int × List y7 → Option R) (again : Wp → Option R) (l : List y7) (i : Int) (p : Bool) (a b c d e : Int) (o : List y7) (hl : l.length ≤ 1073741824) (h0 : 0 ≤ i) (h1 : i < (l.length : Int)) (ho : o.length ≤ 1073741825) :
  YI k0 again (p, l, (l.length : Int), i, a, b, c, d, e, o) = again ((jz (a, b, c, d, e) (p, o) (l.getD i.toNat yH)).1, l, (l.length : Int), i + 1, a, b, c, d, e, (jz (a, b, c, d, e) (p, o) (l.getD i.toNat yH)).2) := by
 have hw : Go.IntKind.wrap .i64 (i + 1) = i + 1 := w64 (by omega) (by omega)
 have c1 : (o.length + (0 + 1)) * 40 < 140737488355328 := yqH ho (by decide)
 have c2 : (o.length + (0 + 1) + (0 + 1)) * 40 < 140737488355328 := by rw [Nat.add_assoc]; exact yqH ho (by decide)
 obtain ⟨⟨x1, x2, x3, x4, x5⟩, hx⟩ : ∃ x, y6 l i = x := ⟨_, rfl⟩
 have hx' : l.getD i.toNat yH = (x1, x2, x3, x4, x5) := hx
 rw [hx']
 unfold YI
 simp only [Bool.cond_eq_ite, decide_eq_true_eq, h0, h1, if_true, hw, hx, Qc, y2b, Option.bind_some, List.length_append, List.length_cons, List.length_nil]
 unfold jz
 generalize wA (x1, x2, x3, x4, x5) (a, b, c, d, e) = q1
 generalize ZY (x1, x2, x3, x4, x5) (a, b, c, d, e) = q2
 simp only [c1, c2, if_true]
 cases p <;> cases q1 <;> cases q2 <;> rfl
theorem y2f {R : Type} (k0 : Bool × Int × Int × Int × Int × Int × List y7 → Option R) (l : List y7) (a b c d e : Int) (hl : l.length ≤ 1073741824) :
  KX k0 (false, l, (l.length : Int), 0, a, b, c, d, e, []) = k0 ((l.foldl (jz (a, b, c, d, e)) (false, [])).1, a, b, c, d, e, (l.foldl (jz (a, b, c, d, e)) (false, [])).2) := by
 unfold KX
 refine zW (step := YI k0) (fun (i : Int) (s : Bool × List y7) => (s.1, l, (l.length : Int), i, a, b, c, d, e, s.2)) (fun s => k0 (s.1, a, b, c, d, e, s.2)) yH (jz (a, b, c, d, e)) l (by omega) (fun i s => s.2.length ≤ i + pN s.1) ?_ ?_ (false, []) (by simp)
 ·rintro again i ⟨p, o⟩ h0 h1 hI
  have hp : pN p ≤ 1 := by cases p <;> decide
  have hI' : o.length ≤ i.toNat + pN p := hI
  clear hI
  refine ⟨y2e k0 again l i p a b c d e o hl h0 h1 (by omega), ?_⟩
  have ho := (y3n (a, b, c, d, e) (p, o) (l.getD i.toNat yH)).1
  show (jz (a, b, c, d, e) (p, o) (l.getD i.toNat yH)).2.length ≤ i.toNat + 1 + pN (jz (a, b, c, d, e) (p, o) (l.getD i.toNat yH)).1
  generalize (jz (a, b, c, d, e) (p, o) (l.getD i.toNat yH)) = r at ho ⊢
  simp only at ho
  omega
 ·rintro again i ⟨p, o⟩ hi
  show YI k0 again (p, l, (l.length : Int), i, a, b, c, d, e, o) = _
  unfold YI
  simp only [Bool.cond_eq_ite, decide_eq_true_eq, if_neg hi]
theorem vX (l : List y7) (a b c d e : Int) (hl : l.length ≤ 1073741824) : ZT (l, a, b, c, d, e) = some (Yb l (a, b, c, d, e)) := by
 have hlen := QC (a, b, c, d, e) l (false, [])
 unfold ZT Yb
 rw [y2f _ l a b c d e hl]
 generalize l.foldl (jz (a, b, c, d, e)) (false, []) = r at hlen ⊢
 obtain ⟨q, o⟩ := r
 cases q with
 | true => rfl
 | false =>
  simp only [pN, List.length_nil, Bool.false_eq_true, if_false] at hlen
  simp only [Bool.not_false, cond_true, List.length_cons, List.length_nil, Bool.false_eq_true, if_false]
  rw [if_pos (by omega)]
end Go.Proofs.YtjllpipmaejeoaaGreat.Pl
namespace Go.Proofs.YtjllpipmaejeoaaGreat.Pl
open Go.Proofs.YtjllpipmaejeoaaGreat.R Go.Proofs.YtjllpipmaejeoaaGreat.XR
def qt (l : List y9) : Int := (List.length l : Int) + WG (fun a : y9 => (List.length a : Int)) l
theorem kZ (l : List y9) : 0 ≤ qt l := by
 have := wz (w := fun a : y9 => (List.length a : Int)) (fun a => Int.natCast_nonneg _) l
 unfold qt
 omega
end Go.Proofs.YtjllpipmaejeoaaGreat.Pl
namespace Go.Proofs.YtjllpipmaejeoaaGreat.Pl
open Go.Proofs.YtjllpipmaejeoaaGreat.R Go.Proofs.YtjllpipmaejeoaaGreat.XR
def YJ (a b : List y7) : List y7 := b.foldl Yb a
theorem QD : ∀ (b a : List y7), (YJ a b).length ≤ a.length + b.length
 | [], a => by simp [YJ]
 | c :: b, a => by
  have h := QD b (Yb a c)
  have h2 := wP a c
  unfold YJ at h ⊢
  simp only [List.foldl_cons, List.length_cons] at h ⊢
  omega
def vh (s : List y7) (c : y7) : List y7 := if c.2.2.1 = 0 then s else s ++ [c]
def kt (l : List y7) : List y7 := l.foldl vh []
theorem y0q (s : List y7) (c : y7) : (vh s c).length ≤ s.length + 1 := by
 unfold vh
 split <;> simp
theorem y3o : ∀ (l s : List y7), (l.foldl vh s).length ≤ s.length + l.length
 | [], s => by simp
 | c :: l, s => by
  have h := y3o l (vh s c)
  have h2 := y0q s c
  simp only [List.foldl_cons, List.length_cons]
  omega
def V7 (a : y9) : Int := (List.length a : Int)
theorem ku (a : y9) : 0 ≤ V7 a := Int.natCast_nonneg _
def yF (n : List y9) : List y7 := kt (n.foldl YJ [])
theorem y0Y : ∀ (n : List y9) (s : List y7), ((n.foldl YJ s).length : Int) ≤ s.length + WG V7 n
 | [], s => by simp [WG]
 | c :: n, s => by
  have h := y0Y n (YJ s c)
  have h2 := QD c s
  simp only [List.foldl_cons, Y1, V7]
  omega
theorem K0 (n : List y9) : ((yF n).length : Int) ≤ WG V7 n := by
 have h := y3o (n.foldl YJ []) []
 have h2 := y0Y n []
 unfold yF kt
 simp only [List.length_nil] at h h2
 omega
theorem y0Z (n : List y9) : WG V7 n ≤ qt n := by
 show WG (fun a : y9 => (List.length a : Int)) n ≤ (List.length n : Int) + WG (fun a : y9 => (List.length a : Int)) n
 omega
def WH (s : List y7) (n : y0) : List y7 := s ++ yF n
def yu (t : List y0) : List y7 := t.foldl WH []
theorem y1z (a b : List y7) (h : a.length + b.length ≤ 1073741824) : YN (a, b) = some (YJ a b) := by
 unfold YN vA
 simp only [List.length_nil, Nat.zero_add, List.nil_append]
 rw [if_pos (by omega)]
 refine zW (step := YU _) (fun (i : Int) (s : List y7) => (b, i, s)) (fun s => some s) yH Yb b (by omega) (fun i s => s.length ≤ a.length + i) ?_ ?_ a (by simp)
 ·intro again i s h0 h1 hI
  have hw : Go.IntKind.wrap .i64 (i + 1) = i + 1 := w64 (by omega) (by omega)
  have hs := wP s (b.getD i.toNat yH)
  have e := kJ s (y6 b i).1 (y6 b i).2.1 (y6 b i).2.2.1 (y6 b i).2.2.2.1 (y6 b i).2.2.2.2 (by omega)
  refine ⟨?_, by omega⟩
  unfold YU
  simp only [Bool.cond_eq_ite, decide_eq_true_eq, h0, h1, if_true, hw, e, Option.bind_some]
  rfl
 ·intro again i s hi
  unfold YU
  simp only [Bool.cond_eq_ite, decide_eq_true_eq, if_neg hi]
theorem Qd (l : List y7) (h : l.length ≤ 1073741824) : zR l = some (kt l) := by
 unfold zR y0S
 refine zW (step := W1 _) (fun (i : Int) (s : List y7) => (l, i, s)) (fun s => some s) yH vh l (by omega) (fun i s => s.length ≤ i) ?_ ?_ [] (by simp)
 ·intro again i s h0 h1 hI
  have hw : Go.IntKind.wrap .i64 (i + 1) = i + 1 := w64 (by omega) (by omega)
  have hs := y0q s (l.getD i.toNat yH)
  refine ⟨?_, by omega⟩
  have c1 : (s.length + 1) * 40 < 140737488355328 := by omega
  clear hs
  unfold W1 vh
  obtain ⟨⟨x1, x2, x3, x4, x5⟩, hx⟩ : ∃ x, y6 l i = x := ⟨_, rfl⟩
  have hx' : l.getD i.toNat yH = (x1, x2, x3, x4, x5) := hx
  rw [hx']
  simp only [Bool.cond_eq_ite, decide_eq_true_eq, h0, h1, if_true, hw, hx, List.length_cons, List.length_nil, Nat.zero_add, c1]
  by_cases h3 : x3 = 0
  ·rw [if_neg (by simpa using h3), if_pos h3]
  ·rw [if_pos (by simpa using h3), if_neg h3]
 ·intro again i s hi
  unfold W1
  simp only [Bool.cond_eq_ite, decide_eq_true_eq, if_neg hi]
theorem YR (n : List y9) (hn : n.length ≤ 1073741824) (h : WG V7 n ≤ 1048576) : yz n = some (yF n) := by
 have hlen := y0Y n []
 simp only [List.length_nil] at hlen
 have hD := Qd (n.foldl YJ []) (by omega)
 unfold yz Vf
 refine (zW (step := Zn _) (fun (i : Int) (s : List y7) => (i, n, s)) (fun s => Option.bind (zR s) fun r3 => some r3) yT YJ n (by omega) (fun i s => (s.length : Int) + WG V7 (n.drop i) ≤ WG V7 n) ?_ ?_ [] (by simp)).trans ?_
 ·intro again i s h0 h1 hI
  have hw : Go.IntKind.wrap .i64 (i + 1) = i + 1 := w64 (by omega) (by omega)
  rw [we yT n i h0 h1, Y1, show (i + 1).toNat = i.toNat + 1 by omega] at hI
  have hnn := wz ku (n.drop (i.toNat + 1))
  have hm := QD (n.getD i.toNat yT) s
  have hk : V7 (n.getD i.toNat yT) = (List.length (n.getD i.toNat yT) : Int) := rfl
  have e : YN (s, yl n i) = some (YJ s (yl n i)) := y1z s _ (by show s.length + List.length (n.getD i.toNat yT) ≤ _; omega)
  refine ⟨?_, by omega⟩
  unfold Zn
  simp only [Bool.cond_eq_ite, decide_eq_true_eq, h0, h1, if_true, hw, e, Option.bind_some]
  rfl
 ·intro again i s hi
  unfold Zn
  simp only [Bool.cond_eq_ite, decide_eq_true_eq, if_neg hi]
 ·rw [hD]
  rfl
theorem Yr (q : List Int) (t : List y0) (ht : t.length ≤ 1073741824) (hm : ∀ n ∈ t, List.length n ≤ 1073741824) (h : WG qt t ≤ 1048576) : yI (q, t) = some (yu t) := by
 unfold yI Vg
 refine zW (step := Zo _) (fun (i : Int) (s : List y7) => (i, q, t, s)) (fun s => some s) yi WH t (by omega) (fun i s => (s.length : Int) + WG qt (t.drop i) ≤ WG qt t) ?_ ?_ [] (by simp)
 ·intro again i s h0 h1 hI
  have hw : Go.IntKind.wrap .i64 (i + 1) = i + 1 := w64 (by omega) (by omega)
  rw [we yi t i h0 h1, Y1, show (i + 1).toNat = i.toNat + 1 by omega] at hI
  have hnn := wz kZ (t.drop (i.toNat + 1))
  have hge := y0Z (t.getD i.toNat yi)
  have hk := K0 (t.getD i.toNat yi)
  have e : yz (yd t i) = some (yF (yd t i)) := YR _ (hm _ (z4 yi t i h0 h1)) (by show WG V7 (t.getD i.toNat yi) ≤ _; omega)
  have hT : (WH s (t.getD i.toNat yi)).length = s.length + (yF (t.getD i.toNat yi)).length := List.length_append
  have c1 : (s.length + (yF (yd t i)).length) * 40 < 140737488355328 := by
   show (s.length + (yF (t.getD i.toNat yi)).length) * 40 < 140737488355328
   generalize (yF (t.getD i.toNat yi)).length = m at hk ⊢
   clear hT e
   have : s.length + m ≤ 1048576 := by omega
   omega
  refine ⟨?_, by rw [hT]; omega⟩
  unfold Zo
  simp only [Bool.cond_eq_ite, decide_eq_true_eq, h0, h1, if_true, hw, e, Option.bind_some, c1]
  rfl
 ·intro again i s hi
  unfold Zo
  simp only [Bool.cond_eq_ite, decide_eq_true_eq, if_neg hi]
theorem y1A (a b : List y7) (h : a.length + b.length ≤ 1073741824) : YQ (a, b) = some (YJ a b) := by
 unfold YQ zU vG
 simp only [List.length_nil, Nat.zero_add, List.nil_append]
 rw [if_pos (by omega), Option.bind_some]
 refine zW (step := Z2 _) (fun (i : Int) (s : List y7) => (b, (b.length : Int), i, s)) (fun s => some s) yH Yb b (by omega) (fun i s => s.length ≤ a.length + i) ?_ ?_ a (by simp)
 ·intro again i s h0 h1 hI
  have hw : Go.IntKind.wrap .i64 (i + 1) = i + 1 := w64 (by omega) (by omega)
  have hs := wP s (b.getD i.toNat yH)
  have e := vX s (y6 b i).1 (y6 b i).2.1 (y6 b i).2.2.1 (y6 b i).2.2.2.1 (y6 b i).2.2.2.2 (by omega)
  refine ⟨?_, by omega⟩
  unfold Z2
  simp only [Bool.cond_eq_ite, decide_eq_true_eq, h0, h1, if_true, hw, e, Option.bind_some]
  rfl
 ·intro again i s hi
  unfold Z2
  simp only [Bool.cond_eq_ite, decide_eq_true_eq, if_neg hi]
theorem y21 (l : List y7) (h : l.length ≤ 1073741824) : J1 l = some (kt l) := by
 unfold J1 y0X
 refine zW (step := Wr _) (fun (i : Int) (s : List y7) => (l, (l.length : Int), i, s)) (fun s => some s) yH vh l (by omega) (fun i s => s.length ≤ i) ?_ ?_ [] (by simp)
 ·intro again i s h0 h1 hI
  have hw : Go.IntKind.wrap .i64 (i + 1) = i + 1 := w64 (by omega) (by omega)
  have hs := y0q s (l.getD i.toNat yH)
  refine ⟨?_, by omega⟩
  have c1 : (s.length + 1) * 40 < 140737488355328 := by omega
  clear hs
  unfold Wr vh
  obtain ⟨⟨x1, x2, x3, x4, x5⟩, hx⟩ : ∃ x, y6 l i = x := ⟨_, rfl⟩
  have hx' : l.getD i.toNat yH = (x1, x2, x3, x4, x5) := hx
  rw [hx']
  simp only [Bool.cond_eq_ite, decide_eq_true_eq, h0, h1, if_true, hw, hx, List.length_cons, List.length_nil, Nat.zero_add, c1]
  by_cases h3 : x3 = 0
  ·rw [if_neg (by simpa using h3), if_pos h3]
  ·rw [if_pos (by simpa using h3), if_neg h3]
 ·intro again i s hi
  unfold Wr
  simp only [Bool.cond_eq_ite, decide_eq_true_eq, if_neg hi]
theorem jp (n : List y9) (hn : n.length ≤ 1073741824) (h : WG V7 n ≤ 1048576) : yL n = some (yF n) := by
 have hlen := y0Y n []
 simp only [List.length_nil] at hlen
 have hD := y21 (n.foldl YJ []) (by omega)
 unfold yL Vj
 refine (zW (step := Zu _) (fun (i : Int) (s : List y7) => (n, (n.length : Int), i, s)) (fun s => Option.bind (J1 s) fun r3 => some r3) yT YJ n (by omega) (fun i s => (s.length : Int) + WG V7 (n.drop i) ≤ WG V7 n) ?_ ?_ [] (by simp)).trans ?_
 ·intro again i s h0 h1 hI
  have hw : Go.IntKind.wrap .i64 (i + 1) = i + 1 := w64 (by omega) (by omega)
  rw [we yT n i h0 h1, Y1, show (i + 1).toNat = i.toNat + 1 by omega] at hI
  have hnn := wz ku (n.drop (i.toNat + 1))
  have hm := QD (n.getD i.toNat yT) s
  have hk : V7 (n.getD i.toNat yT) = (List.length (n.getD i.toNat yT) : Int) := rfl
  have e : YQ (s, yl n i) = some (YJ s (yl n i)) := y1A s _ (by show s.length + List.length (n.getD i.toNat yT) ≤ _; omega)
  refine ⟨?_, by omega⟩
  unfold Zu
  simp only [Bool.cond_eq_ite, decide_eq_true_eq, h0, h1, if_true, hw, e, Option.bind_some]
  rfl
 ·intro again i s hi
  unfold Zu
  simp only [Bool.cond_eq_ite, decide_eq_true_eq, if_neg hi]
 ·rw [hD]
  rfl
theorem qn (q : List Int) (t : List y0) (ht : t.length ≤ 1073741824) (hm : ∀ n ∈ t, List.length n ≤ 1073741824) (h : WG qt t ≤ 1048576) : Yj (q, t) = some (yu t) := by
 unfold Yj Vl
 refine zW (step := Zx _) (fun (i : Int) (s : List y7) => (t, (t.length : Int), i, s)) (fun s => some s) yi WH t (by omega) (fun i s => (s.length : Int) + WG qt (t.drop i) ≤ WG qt t) ?_ ?_ [] (by simp)
 ·intro again i s h0 h1 hI
  have hw : Go.IntKind.wrap .i64 (i + 1) = i + 1 := w64 (by omega) (by omega)
  rw [we yi t i h0 h1, Y1, show (i + 1).toNat = i.toNat + 1 by omega] at hI
  have hnn := wz kZ (t.drop (i.toNat + 1))
  have hge := y0Z (t.getD i.toNat yi)
  have hk := K0 (t.getD i.toNat yi)
  have e : yL (yd t i) = some (yF (yd t i)) := jp _ (hm _ (z4 yi t i h0 h1)) (by show WG V7 (t.getD i.toNat yi) ≤ _; omega)
  have hT : (WH s (t.getD i.toNat yi)).length = s.length + (yF (t.getD i.toNat yi)).length := List.length_append
  have c1 : (s.length + (yF (yd t i)).length) * 40 < 140737488355328 := by
   show (s.length + (yF (t.getD i.toNat yi)).length) * 40 < 140737488355328
   generalize (yF (t.getD i.toNat yi)).length = m at hk ⊢
   clear hT e
   have : s.length + m ≤ 1048576 := by omega
   omega
  refine ⟨?_, by rw [hT]; omega⟩
  unfold Zx
  simp only [Bool.cond_eq_ite, decide_eq_true_eq, h0, h1, if_true, hw, e, Option.bind_some, c1]
  rfl
 ·intro again i s hi
  unfold Zx
  simp only [Bool.cond_eq_ite, decide_eq_true_eq, if_neg hi]
end Go.Proofs.YtjllpipmaejeoaaGreat.Pl
namespace Go.Proofs.YtjllpipmaejeoaaGreat.Pl
open Go.Proofs.YtjllpipmaejeoaaGreat.R Go.Proofs.YtjllpipmaejeoaaGreat.XR
def y7Q {S A R : Type} (g : Int → S → A → Except (Option R) S) (k : S → Option R) : List A → Int → S → Option R
 | [], _, s => k s
 | a :: l, i, s => match g i s a with
  | .error r => r
  | .ok s' => y7Q g k l (i + 1) s'
theorem y7R {T A S R : Type} {step : (T → Option R) → T → Option R} (mk : Int → S → T) (g : Int → S → A → Except (Option R) S) (k : S → Option R) (da : A) (l : List A) (hl : l.length ≤ 1099511627776) (I : Nat → S → Prop)
  (h : ∀ again i s, 0 ≤ i → i < (l.length : Int) → I i.toNat s → (step again (mk i s) = match g i s (l.getD i.toNat da) with
   | .error r => r
   | .ok s' => again (mk (i + 1) s')) ∧ ∀ s', g i s (l.getD i.toNat da) = .ok s' → I (i.toNat + 1) s')
  (hd : ∀ again i s, ¬ i < (l.length : Int) → step again (mk i s) = k s) (s : S) (hs : I 0 s) : zL step Y3 (mk 0 s) = y7Q g k l 0 s := by
 have key : ∀ (n : Nat) (i : Int) (s : S), 0 ≤ i → i ≤ l.length → I i.toNat s → l.length - i.toNat < n → zL step n (mk i s) = y7Q g k (l.drop i.toNat) i s := by
  intro n
  induction n with
  | zero => intro i s _ _ _ hn; omega
  | succ n ih =>
   intro i s h0 h1 hI hn
   rw [zL]
   by_cases hi : i < (l.length : Int)
   ·obtain ⟨e, hI'⟩ := h (zL step n) i s h0 hi hI
    have e1 : (i + 1).toNat = i.toNat + 1 := by omega
    rw [e, we da l i h0 hi, y7Q]
    cases hg : g i s (l.getD i.toNat da) with
    | error r => rfl
    | ok s' => exact ih (i + 1) s' (by omega) (by omega) (by rw [e1]; exact hI' s' hg) (by omega)
   ·rw [hd _ i s hi, List.drop_of_length_le (by omega)]
    rfl
 have := key Y3 0 s (by omega) (by omega) hs (by rw [y0m]; simp; omega)
 simpa using this
def zX {A : Type} (p : A → Bool) : List A → Int → Int
 | [], _ => -1
 | a :: l, i => if p a then i else zX p l (i + 1)
theorem y7S {A R : Type} (p : A → Bool) (hit : Int → Option R) (miss : Option R) : ∀ (l : List A) (i : Int), 0 ≤ i → y7Q (fun i (_ : Unit) a => if p a then .error (hit i) else .ok ()) (fun _ => miss) l i () = if zX p l i < 0 then miss else hit (zX p l i)
 | [], i, _ => by simp [y7Q, zX]
 | a :: l, i, h => by
  rw [y7Q, zX]
  by_cases hp : p a = true
  ·rw [if_pos hp, if_pos hp, if_neg (by omega)]
  ·rw [if_neg hp, if_neg hp]
   exact y7S p hit miss l (i + 1) (by omega)
theorem YK {T A R : Type} {step : (T → Option R) → T → Option R} (mk : Int → T) (p : A → Bool) (hit : Int → Option R) (miss : Option R) (da : A) (l : List A) (hl : l.length ≤ 1099511627776)
  (h : ∀ again i, 0 ≤ i → i < (l.length : Int) → step again (mk i) = if p (l.getD i.toNat da) then hit i else again (mk (i + 1)))
  (hd : ∀ again i, ¬ i < (l.length : Int) → step again (mk i) = miss) : zL step Y3 (mk 0) = if zX p l 0 < 0 then miss else hit (zX p l 0) := by
 rw [← y7S p hit miss l 0 (Int.le_refl _)]
 refine y7R (fun i (_ : Unit) => mk i) _ _ da l hl (fun _ _ => True) (fun again i s h0 h1 _ => ⟨?_, fun _ _ => trivial⟩) (fun again i s hi => hd again i hi) () trivial
 rw [h again i h0 h1]
 cases p (l.getD i.toNat da) <;> rfl
theorem YS {A : Type} (p : A → Bool) (da : A) : ∀ (l : List A) (i : Int), 0 ≤ i → zX p l i = -1 ∨ (i ≤ zX p l i ∧ zX p l i < i + l.length ∧ p (l.getD (zX p l i - i).toNat da) = true)
 | [], i, _ => .inl rfl
 | a :: l, i, h => by
  rw [zX]
  by_cases hp : p a = true
  ·rw [if_pos hp]
   refine .inr ⟨Int.le_refl _, by simp only [List.length_cons]; omega, ?_⟩
   simpa using hp
  ·rw [if_neg hp]
   rcases YS p da l (i + 1) (by omega) with e | ⟨e1, e2, e3⟩
   ·exact .inl e
   ·refine .inr ⟨by omega, by simp only [List.length_cons]; omega, ?_⟩
    rw [show (zX p l (i + 1) - i).toNat = (zX p l (i + 1) - (i + 1)).toNat + 1 by omega, List.getD_cons_succ]
    exact e3
def zi (l : List ya) (id : Int) : Int := zX (fun a : ya => a.1 == id) l 0
theorem QE (l : List ya) (id : Int) : zi l id = -1 ∨ (0 ≤ zi l id ∧ zi l id < l.length ∧ (l.getD (zi l id).toNat zq).1 = id) := by
 rcases YS (fun a : ya => a.1 == id) zq l 0 (Int.le_refl _) with h | ⟨h1, h2, h3⟩
 ·exact .inl h
 ·refine .inr ⟨h1, by simpa [zi] using h2, ?_⟩
  have := eq_of_beq h3
  simpa [zi] using this
theorem Z9 (l : List ya) (id : Int) (hl : l.length ≤ 1073741824) : zF (l, id) = some (zi l id) := by
 unfold zF QZ
 refine (YK (step := JT _ _) (fun i => (l, id, i)) (fun a : ya => a.1 == id) (fun x => some x) (some (-1)) zq l (by omega) ?_ ?_).trans ?_
 ·intro again i h0 h1
  have hw : Go.IntKind.wrap .i64 (i + 1) = i + 1 := w64 (by omega) (by omega)
  unfold JT
  simp only [Bool.cond_eq_ite, decide_eq_true_eq, h0, h1, if_true, hw]
  rfl
 ·intro again i hi
  unfold JT
  simp only [Bool.cond_eq_ite, decide_eq_true_eq, if_neg hi]
 ·rcases QE l id with h | ⟨h1, h2, h3⟩ <;> unfold zi at *
  ·rw [h]
   rfl
  ·rw [if_neg (by omega)]
theorem Kp (l : List ya) (id : Int) (hl : l.length ≤ 1073741824) : Z4 (l, id) = some (zi l id) := by
 have key : z0 (l, id) = some (zi l id, id) := by
  unfold z0 Yu
  refine (YK (step := yU _ _) (fun i => (l, (l.length : Int), i, id)) (fun a : ya => a.1 == id) (fun x => some (x, id)) (some (-1, id)) zq l (by omega) ?_ ?_).trans ?_
  ·intro again i h0 h1
   have hw : Go.IntKind.wrap .i64 (i + 1) = i + 1 := w64 (by omega) (by omega)
   unfold yU kH
   simp only [Bool.cond_eq_ite, decide_eq_true_eq, h0, h1, if_true, hw, Option.bind_some]
   rfl
  ·intro again i hi
   unfold yU
   simp only [Bool.cond_eq_ite, decide_eq_true_eq, if_neg hi]
  ·rcases QE l id with h | ⟨h1, h2, h3⟩ <;> unfold zi at *
   ·rw [h]
    rfl
   ·rw [if_neg (by omega)]
 unfold Z4
 rw [key]
 rfl
def yeg (l : List Int) (v : Int) : Bool := decide (0 ≤ zX (fun a : Int => a == v) l 0)
theorem y9C (l : List Int) (v : Int) (hl : l.length ≤ 1073741824) : kV (l, v) = some (yeg l v) := by
 unfold kV y02
 refine (YK (step := w3 _ _) (fun i => (l, v, i)) (fun a : Int => a == v) (fun _ => some true) (some false) y1y l (by omega) ?_ ?_).trans ?_
 ·intro again i h0 h1
  have hw : Go.IntKind.wrap .i64 (i + 1) = i + 1 := w64 (by omega) (by omega)
  unfold w3
  simp only [Bool.cond_eq_ite, decide_eq_true_eq, h0, h1, if_true, hw]
  rfl
 ·intro again i hi
  unfold w3
  simp only [Bool.cond_eq_ite, decide_eq_true_eq, if_neg hi]
 ·unfold yeg
  by_cases h : zX (fun a : Int => a == v) l 0 < 0
  ·rw [if_pos h, decide_eq_false (by omega)]
  ·rw [if_neg h, decide_eq_true (by omega)]
theorem y9D (l : List Int) (v : Int) (hl : l.length ≤ 1073741824) : Yk (l, v) = some (yeg l v) := by
 have key : Z6 (l, v) = some (zX (fun a : Int => a == v) l 0) := by
  unfold Z6 Ki
  refine (YK (step := Yw _ _) (fun i => (l, v, (l.length : Int), i)) (fun a : Int => a == v) (fun x => some x) (some (-1)) y1y l (by omega) ?_ ?_).trans ?_
  ·intro again i h0 h1
   have hw : Go.IntKind.wrap .i64 (i + 1) = i + 1 := w64 (by omega) (by omega)
   unfold Yw
   have e : (v == (zt l i)) = ((zt l i) == v) := Bool.beq_comm
   simp only [Bool.cond_eq_ite, decide_eq_true_eq, h0, h1, if_true, hw, e]
   rfl
  ·intro again i hi
   unfold Yw
   simp only [Bool.cond_eq_ite, decide_eq_true_eq, if_neg hi]
  ·rcases YS (fun a : Int => a == v) y1y l 0 (Int.le_refl _) with h | ⟨h1, h2, h3⟩
   ·rw [h]
    rfl
   ·rw [if_neg (by omega)]
 unfold Yk
 rw [key]
 rfl
def vi (l : List ya) : Nat → Int → List Int
 | 0, _ => []
 | n + 1, at_ => if at_ < 0 then [] else (l.getD at_.toNat zq).1 :: vi l n (zi l (l.getD at_.toNat zq).2)
def Yl (l : List ya) (id : Int) : List Int := vi l (l.length + 1) (zi l id)
theorem Qe (l : List ya) (n : Nat) (i : Int) (h : 0 ≤ i) : vi l (n + 1) i = (l.getD i.toNat zq).1 :: vi l n (zi l (l.getD i.toNat zq).2) := by rw [vi, if_neg (by omega)]
theorem ydA (l : List ya) (n : Nat) : vi l n (-1) = [] := by cases n <;> simp [vi]
theorem y7T (l : List ya) : ∀ (n : Nat) (i : Int), (vi l n i).length ≤ n
 | 0, _ => by simp [vi]
 | n + 1, i => by
  rw [vi]
  split
  ·simp
  ·have := y7T l n (zi l (l.getD i.toNat zq).2)
   simp only [List.length_cons]
   omega
theorem y05 (l : List ya) (id : Int) (hl : l.length ≤ 1048576) : Jy (l, id) = some (Yl l id) := by
 unfold Jy qS Yl
 rw [Z9 l id (by omega), Option.bind_some]
 have key := ZH (step := We (fun x4 => some x4)) (fun t : Wd => l.length + 1 - t.2.2.length) (fun t => t.1 = l ∧ t.2.2.length ≤ l.length + 1 ∧ ∃ id, t.2.1 = zi l id) (fun t => some (t.2.2 ++ vi l (l.length + 1 - t.2.2.length) t.2.1)) ?_ (l, zi l id, []) ⟨rfl, by simp, id, rfl⟩ (by simp; omega)
 ·simpa using key
 ·rintro again ⟨l', at_, o⟩ ⟨hll, ho, id', hid⟩ hag
  simp only at hll ho hid
  subst hll hid
  unfold We
  simp only [Bool.cond_eq_ite, decide_eq_true_eq, List.length_cons, List.length_nil, Nat.zero_add]
  rcases QE l' id' with h | ⟨h1, h2, h3⟩
  ·rw [h]
   have : vi l' (l'.length + 1 - o.length) (-1) = [] := by
    cases l'.length + 1 - o.length <;> simp [vi]
   simp [this]
  ·simp only [ge_iff_le, h1, if_true, h2]
   by_cases hlen : (o.length : Int) ≤ (l'.length : Int)
   ·have e := Z9 l' (yK l' (zi l' id')).2 (by omega)
    rw [show l'.length + 1 - o.length = (l'.length - o.length) + 1 by omega, Qe _ _ _ h1]
    simp only [hlen, decide_true, Option.bind_some, if_true, e]
    have hl1 : (o ++ [(yK l' (zi l' id')).1]).length = o.length + 1 := by simp
    rw [if_pos (by omega), hag (l', zi l' (yK l' (zi l' id')).2, o ++ [(yK l' (zi l' id')).1]) ⟨rfl, by show (o ++ [(yK l' (zi l' id')).1]).length ≤ _; omega, _, rfl⟩ (by show l'.length + 1 - (o ++ [(yK l' (zi l' id')).1]).length < l'.length + 1 - o.length; omega)]
    simp only [hl1]
    rw [show l'.length + 1 - (o.length + 1) = l'.length - o.length by omega, List.append_assoc]
    rfl
   ·rw [show l'.length + 1 - o.length = 0 by omega]
    simp [hlen, vi]
theorem y06 (l : List ya) (id : Int) (hl : l.length ≤ 1048576) : JD (l, id) = some (Yl l id) := by
 unfold JD Q7 Yl
 simp only
 rw [w64 (n := (l.length : Int) + 1) (by omega) (by omega)]
 have key := ZH (step := Wz (fun x2 => some x2)) (fun t : Wy => l.length + 1 - t.2.2.2.2.length) (fun t => t.1 = l ∧ t.2.2.1 = (l.length : Int) + 1 ∧ t.2.2.2.1 = (t.2.2.2.2.length : Int) ∧ t.2.2.2.2.length ≤ l.length + 1) (fun t => some (t.2.2.2.2 ++ vi l (l.length + 1 - t.2.2.2.2.length) (zi l t.2.1))) ?_ (l, id, (l.length : Int) + 1, 0, []) ⟨rfl, rfl, by simp, by simp⟩ (by simp; omega)
 ·simpa using key
 ·rintro again ⟨l', id', n, i, o⟩ ⟨hll, hn, hi, ho⟩ hag
  simp only at hll ho hn hi
  subst hll hn hi
  unfold Wz
  have e := Kp l' id' (by omega)
  simp only [Bool.cond_eq_ite, decide_eq_true_eq, e, Option.bind_some, List.length_cons, List.length_nil, Nat.zero_add]
  by_cases hlen : (o.length : Int) < (l'.length : Int) + 1
  ·rw [if_pos hlen, show l'.length + 1 - o.length = (l'.length - o.length) + 1 by omega]
   rcases QE l' id' with h | ⟨h1, h2, h3⟩
   ·rw [h, ydA]
    simp
   ·have hw : Go.IntKind.wrap .i64 ((o.length : Int) + 1) = (o.length : Int) + 1 := w64 (by omega) (by omega)
    have hl1 : (o ++ [id']).length = o.length + 1 := by simp
    rw [Qe _ _ _ h1, if_neg (by omega), if_pos (by omega), if_pos h1, if_pos h2, hw, hag (l', (yK l' (zi l' id')).2, (l'.length : Int) + 1, (o.length : Int) + 1, o ++ [id']) ⟨rfl, rfl, by show _ = ((o ++ [id']).length : Int); rw [hl1]; rfl, by show (o ++ [id']).length ≤ _; omega⟩ (by show l'.length + 1 - (o ++ [id']).length < l'.length + 1 - o.length; omega), h3]
    simp only [hl1]
    rw [show l'.length + 1 - (o.length + 1) = l'.length - o.length by omega, List.append_assoc]
    rfl
  ·rw [if_neg hlen, show l'.length + 1 - o.length = 0 by omega]
   simp [vi]
end Go.Proofs.YtjllpipmaejeoaaGreat.Pl
namespace Go.Proofs.YtjllpipmaejeoaaGreat.Pl
open Go.Proofs.YtjllpipmaejeoaaGreat.R Go.Proofs.YtjllpipmaejeoaaGreat.XR
theorem Zj (x a b : Int) : yy (x, a, b) = some (inR x a b) := by
 unfold yy inR
 by_cases h : x ≥ a <;> simp [h]
theorem Za (x a b : Int) : yC (x, a, b) = some (inR x a b) := by
 unfold yC inR
 by_cases h : x ≥ a <;> simp [h]
theorem bi (x y : Int) : ((x == y) = true) = (x = y) := by simp
end Go.Proofs.YtjllpipmaejeoaaGreat.Pl
namespace Go.Proofs.YtjllpipmaejeoaaGreat.Pl
open Go.Proofs.YtjllpipmaejeoaaGreat.R Go.Proofs.YtjllpipmaejeoaaGreat.XR
def Yo {A : Type} (p : Int → A → Bool) : List A → Int → Bool
 | [], _ => false
 | a :: l, i => p i a || Yo p l (i + 1)
theorem y9E {A : Type} (p q : Int → A → Bool) : ∀ (l : List A) (i : Int), Yo (fun i a => p i a || q i a) l i = (Yo p l i || Yo q l i)
 | [], _ => rfl
 | a :: l, i => by
  rw [Yo, Yo, Yo, y9E p q l (i + 1)]
  cases p i a <;> cases q i a <;> cases Yo p l (i + 1) <;> rfl
theorem y4V {A : Type} {p q : Int → A → Bool} : ∀ (l : List A) (i : Int), (∀ j a, i ≤ j → p j a = q j a) → Yo p l i = Yo q l i
 | [], _, _ => rfl
 | a :: l, i, h => by rw [Yo, Yo, h i a (Int.le_refl _), y4V l (i + 1) (fun j a hj => h j a (by omega))]
theorem WI {A : Type} (da : A) {p : Int → A → Bool} : ∀ (l : List A) (i : Int), Yo p l i = false → ∀ j : Nat, j < l.length → p (i + j) (l.getD j da) = false
 | a :: l, i, h, 0, _ => by
  rw [Yo, Bool.or_eq_false_iff] at h
  simpa using h.1
 | a :: l, i, h, j + 1, hj => by
  rw [Yo, Bool.or_eq_false_iff] at h
  have := WI da l (i + 1) h.2 j (by simpa using hj)
  rw [show i + ((j + 1 : Nat) : Int) = i + 1 + (j : Int) by omega, List.getD_cons_succ]
  exact this
theorem y2H {A S R : Type} (p : Int → A → Bool) (f : S → A → S) (r : Option R) (k : S → Option R) : ∀ (l : List A) (i : Int) (s : S), y7Q (fun i s a => if p i a = true then .error r else .ok (f s a)) k l i s = if Yo p l i = true then r else k (l.foldl f s)
 | [], _, _ => by simp [y7Q, Yo]
 | a :: l, i, s => by
  rw [y7Q, Yo]
  by_cases h : p i a = true
  ·simp [h]
  ·have hf : p i a = false := by simpa using h
   simp only [hf, Bool.false_eq_true, if_false, Bool.false_or, List.foldl_cons]
   exact y2H p f r k l (i + 1) (f s a)
theorem y3p {T A S R : Type} {step : (T → Option R) → T → Option R} (mk : Int → S → T) (g : Int → S → A → Except (Option R) S) (k : S → Option R) (da : A) (l : List A) (hl : l.length ≤ 1099511627776) (I : Nat → S → Prop)
  (h : ∀ again i s, 0 ≤ i → i < (l.length : Int) → I i.toNat s → (step again (mk i s) = match g i s (l.getD i.toNat da) with
   | .error r => r
   | .ok s' => again (mk (i + 1) s')) ∧ ∀ s', g i s (l.getD i.toNat da) = .ok s' → I (i.toNat + 1) s')
  (hd : ∀ again i s, ¬ i < (l.length : Int) → step again (mk i s) = k s) (i0 : Int) (h00 : 0 ≤ i0) (s : S) (hs : I i0.toNat s) : zL step Y3 (mk i0 s) = y7Q g k (l.drop i0.toNat) i0 s := by
 have key : ∀ (n : Nat) (i : Int) (s : S), 0 ≤ i → I i.toNat s → l.length - i.toNat < n → zL step n (mk i s) = y7Q g k (l.drop i.toNat) i s := by
  intro n
  induction n with
  | zero => intro i s _ _ hn; omega
  | succ n ih =>
   intro i s h0 hI hn
   rw [zL]
   by_cases hi : i < (l.length : Int)
   ·obtain ⟨e, hI'⟩ := h (zL step n) i s h0 hi hI
    have e1 : (i + 1).toNat = i.toNat + 1 := by omega
    rw [e, we da l i h0 hi, y7Q]
    cases hg : g i s (l.getD i.toNat da) with
    | error r => rfl
    | ok s' => exact ih (i + 1) s' (by omega) (by rw [e1]; exact hI' s' hg) (by omega)
   ·rw [hd _ i s hi, List.drop_of_length_le (by omega)]
    rfl
 exact key Y3 i0 s h00 hs (by rw [y0m]; omega)
theorem y2I {T A S R : Type} {step : (T → Option R) → T → Option R} (mk : Int → S → T) (p : Int → A → Bool) (f : S → A → S) (r : Option R) (k : S → Option R) (da : A) (l : List A) (hl : l.length ≤ 1099511627776)
  (h : ∀ again i s, 0 ≤ i → i < (l.length : Int) → step again (mk i s) = if p i (l.getD i.toNat da) = true then r else again (mk (i + 1) (f s (l.getD i.toNat da))))
  (hd : ∀ again i s, ¬ i < (l.length : Int) → step again (mk i s) = k s) (s : S) : zL step Y3 (mk 0 s) = if Yo p l 0 = true then r else k (l.foldl f s) := by
 rw [← y2H p f r k l 0 s]
 have := y3p (step := step) mk (fun i s a => if p i a = true then .error r else .ok (f s a)) k da l hl (fun _ _ => True) (fun again i s h0 h1 _ => ⟨?_, fun _ _ => trivial⟩) hd 0 (Int.le_refl _) s trivial
 ·simpa using this
 ·rw [h again i s h0 h1]
  by_cases hp : p i (l.getD i.toNat da) = true
  ·rw [if_pos hp, if_pos hp]
  ·rw [if_neg hp, if_neg hp]
theorem zK {T A R : Type} {step : (T → Option R) → T → Option R} (mk : Int → T) (p : Int → A → Bool) (r k : Option R) (da : A) (l : List A) (hl : l.length ≤ 1099511627776)
  (h : ∀ again i, 0 ≤ i → i < (l.length : Int) → step again (mk i) = if p i (l.getD i.toNat da) = true then r else again (mk (i + 1)))
  (hd : ∀ again i, ¬ i < (l.length : Int) → step again (mk i) = k) : zL step Y3 (mk 0) = if Yo p l 0 = true then r else k :=
 y2I (fun i (_ : Unit) => mk i) p (fun _ _ => ()) r (fun _ => k) da l hl (fun again i _ h0 h1 => h again i h0 h1) (fun again i _ hi => hd again i hi) ()
end Go.Proofs.YtjllpipmaejeoaaGreat.Pl
namespace Go.Proofs.YtjllpipmaejeoaaGreat.Pl
open Go.Proofs.YtjllpipmaejeoaaGreat.R Go.Proofs.YtjllpipmaejeoaaGreat.XR
def Qg (blk : Int) (s : List y7) (a : y7) : List y7 := if a.1 == blk then s ++ [a] else s
def zM (ks : List y7) (blk : Int) : List y7 := ks.foldl (Qg blk) []
theorem y1B (blk : Int) (s : List y7) (a : y7) : (Qg blk s a).length ≤ s.length + 1 := by
 unfold Qg
 split <;> simp
theorem y3q (blk : Int) : ∀ (l s : List y7), (l.foldl (Qg blk) s).length ≤ s.length + l.length
 | [], s => by simp
 | c :: l, s => by
  have h := y3q blk l (Qg blk s c)
  have h2 := y1B blk s c
  simp only [List.foldl_cons, List.length_cons]
  omega
theorem y7U : ∀ (t : List y0) (s : List y7), ((t.foldl WH s).length : Int) ≤ s.length + WG qt t
 | [], s => by simp [WG]
 | n :: t, s => by
  have h := y7U t (WH s n)
  have h1 := K0 n
  have h2 := y0Z n
  have h3 : (WH s n).length = s.length + (yF n).length := List.length_append
  simp only [List.foldl_cons, Y1]
  omega
theorem ydB (t : List y0) : ((yu t).length : Int) ≤ WG qt t := by
 have := y7U t []
 simpa [yu] using this
structure TOk (t : List y0) : Prop where
 len : t.length ≤ 1048576
 nodes : ∀ n ∈ t, List.length n ≤ 1073741824
 sum : WG qt t ≤ 1048576
theorem TOk.keys {t : List y0} (h : TOk t) : (yu t).length ≤ 1048576 := by
 have h1 := ydB t
 have h2 := h.sum
 omega
theorem y48 (q : List Int) (t : List y0) (blk : Int) (ht : TOk t) : Wf (q, t, blk) = some (zM (yu t) blk) := by
 unfold Wf qT
 have hk := ht.keys
 have e : yI (q, t) = some (yu t) := Yr q t (by have := ht.len; omega) ht.nodes ht.sum
 simp only [e, Option.bind_some]
 generalize yu t = ks at hk
 refine zW (step := jT _) (fun (i : Int) (s : List y7) => (blk, i, s, ks)) (fun s => some s) yH (Qg blk) ks (by omega) (fun i s => s.length ≤ i) ?_ ?_ [] (by simp)
 ·intro again i s h0 h1 hI
  have hw : Go.IntKind.wrap .i64 (i + 1) = i + 1 := w64 (by omega) (by omega)
  have hs := y1B blk s (ks.getD i.toNat yH)
  refine ⟨?_, by omega⟩
  have c1 : (s.length + 1) * 40 < 140737488355328 := by omega
  clear hs
  unfold jT Qg
  obtain ⟨⟨x1, x2, x3, x4, x5⟩, hx⟩ : ∃ x, y6 ks i = x := ⟨_, rfl⟩
  have hx' : ks.getD i.toNat yH = (x1, x2, x3, x4, x5) := hx
  rw [hx']
  simp only [Bool.cond_eq_ite, decide_eq_true_eq, h0, h1, if_true, hw, hx, List.length_cons, List.length_nil, Nat.zero_add, c1]
  by_cases h3 : (x1 == blk) = true
  ·rw [if_pos h3, if_pos h3]
  ·rw [if_neg h3, if_neg h3]
 ·intro again i s hi
  unfold jT
  simp only [Bool.cond_eq_ite, decide_eq_true_eq, if_neg hi]
theorem y49 (q : List Int) (t : List y0) (blk : Int) (ht : TOk t) : Wx (q, t, blk) = some (zM (yu t) blk) := by
 unfold Wx Q5
 have hk := ht.keys
 have e : Yj (q, t) = some (yu t) := qn q t (by have := ht.len; omega) ht.nodes ht.sum
 simp only [e, Option.bind_some]
 generalize yu t = ks at hk
 refine zW (step := J9 _) (fun (i : Int) (s : List y7) => (blk, (ks.length : Int), i, s, ks)) (fun s => some s) yH (Qg blk) ks (by omega) (fun i s => s.length ≤ i) ?_ ?_ [] (by simp)
 ·intro again i s h0 h1 hI
  have hw : Go.IntKind.wrap .i64 (i + 1) = i + 1 := w64 (by omega) (by omega)
  have hs := y1B blk s (ks.getD i.toNat yH)
  refine ⟨?_, by omega⟩
  have c1 : (s.length + 1) * 40 < 140737488355328 := by omega
  clear hs
  unfold J9 Qg
  obtain ⟨⟨x1, x2, x3, x4, x5⟩, hx⟩ : ∃ x, y6 ks i = x := ⟨_, rfl⟩
  have hx' : ks.getD i.toNat yH = (x1, x2, x3, x4, x5) := hx
  rw [hx']
  simp only [Bool.cond_eq_ite, decide_eq_true_eq, h0, h1, if_true, hw, hx, List.length_cons, List.length_nil, Nat.zero_add, c1]
  by_cases h3 : (x1 == blk) = true
  ·rw [if_pos h3, if_pos h3]
  ·rw [if_neg h3, if_neg h3]
 ·intro again i s hi
  unfold J9
  simp only [Bool.cond_eq_ite, decide_eq_true_eq, if_neg hi]
def wB (path : List Int) (s : Bool × y7) (a : y7) : Bool × y7 := if yeg path a.2.1 = true ∧ (s.1 = false ∨ s.2.2.1 < a.2.1) then (true, a) else s
def zO (ks : List y7) (path : List Int) : Bool × y7 := ks.foldl (wB path) (false, (0, 0, 0, 0, 0))
def ans (r : Bool × y7) : Int × Int × Int × Int × Int × Bool := (r.2.1, r.2.2.1, r.2.2.2.1, r.2.2.2.2.1, r.2.2.2.2.2, r.1)
theorem y22 (q : List Int) (t : List y0) (blk : Int) (path : List Int) (ht : TOk t) (hp : path.length ≤ 1073741824) : ZS (q, t, blk, path) = some (ans (zO (zM (yu t) blk) path)) := by
 unfold ZS qU
 have hk : (zM (yu t) blk).length ≤ 1048576 := by
  have h1 := y3q blk (yu t) []
  have h2 := ht.keys
  unfold zM
  simp only [List.length_nil] at h1
  omega
 simp only [y48 q t blk ht, Option.bind_some]
 generalize zM (yu t) blk = ks at hk
 refine (zW (step := jU _) (fun (i : Int) (s : Bool × y7) => (path, s.1, i, 0, 0, 0, 0, 0, s.2.1, s.2.2.1, s.2.2.2.1, s.2.2.2.2.1, s.2.2.2.2.2, ks)) (fun s => some (ans s)) yH (wB path) ks (by omega) (fun _ _ => True) ?_ ?_ (false, (0, 0, 0, 0, 0)) trivial)
 ·rintro again i ⟨f, b1, b2, b3, b4, b5⟩ h0 h1 _
  have hw : Go.IntKind.wrap .i64 (i + 1) = i + 1 := w64 (by omega) (by omega)
  refine ⟨?_, trivial⟩
  unfold jU wB
  obtain ⟨⟨x1, x2, x3, x4, x5⟩, hx⟩ : ∃ x, y6 ks i = x := ⟨_, rfl⟩
  have hx' : ks.getD i.toNat yH = (x1, x2, x3, x4, x5) := hx
  rw [hx']
  have e := y9C path x2 hp
  simp only [Bool.cond_eq_ite, decide_eq_true_eq, h0, h1, if_true, hw, hx, e, Option.bind_some]
  cases yeg path x2 <;> cases f <;> by_cases hb : b2 < x2 <;> simp [hb]
 ·rintro again i ⟨f, b1, b2, b3, b4, b5⟩ hi
  unfold jU
  simp only [Bool.cond_eq_ite, decide_eq_true_eq, if_neg hi]
  rfl
theorem y07 (q : List Int) (t : List y0) (blk : Int) (path : List Int) (ht : TOk t) (hp : path.length ≤ 1073741824) : ZW (q, t, blk, path) = some (ans (zO (zM (yu t) blk) path)) := by
 unfold ZW Q6
 have hk : (zM (yu t) blk).length ≤ 1048576 := by
  have h1 := y3q blk (yu t) []
  have h2 := ht.keys
  unfold zM
  simp only [List.length_nil] at h1
  omega
 simp only [y49 q t blk ht, Option.bind_some]
 generalize zM (yu t) blk = ks at hk
 refine (zW (step := Ja _) (fun (i : Int) (s : Bool × y7) => (path, s.1, (ks.length : Int), i, 0, 0, 0, 0, 0, s.2.1, s.2.2.1, s.2.2.2.1, s.2.2.2.2.1, s.2.2.2.2.2, ks)) (fun s => some (ans s)) yH (wB path) ks (by omega) (fun _ _ => True) ?_ ?_ (false, (0, 0, 0, 0, 0)) trivial)
 ·rintro again i ⟨f, b1, b2, b3, b4, b5⟩ h0 h1 _
  have hw : Go.IntKind.wrap .i64 (i + 1) = i + 1 := w64 (by omega) (by omega)
  refine ⟨?_, trivial⟩
  unfold Ja wB
  obtain ⟨⟨x1, x2, x3, x4, x5⟩, hx⟩ : ∃ x, y6 ks i = x := ⟨_, rfl⟩
  have hx' : ks.getD i.toNat yH = (x1, x2, x3, x4, x5) := hx
  rw [hx']
  have e := y9D path x2 hp
  simp only [Bool.cond_eq_ite, decide_eq_true_eq, h0, h1, if_true, hw, hx, e, Option.bind_some]
  cases yeg path x2 <;> cases f <;> by_cases hb : b2 < x2 <;> simp [hb]
 ·rintro again i ⟨f, b1, b2, b3, b4, b5⟩ hi
  unfold Ja
  simp only [Bool.cond_eq_ite, decide_eq_true_eq, if_neg hi]
  rfl
def ybS (t : List y0) (l : List ya) (blk id : Int) : Bool × y7 := zO (zM (yu t) blk) (Yl l id)
theorem QG (l : List ya) (id : Int) (hl : l.length ≤ 1048576) : (Yl l id).length ≤ 1073741824 := by
 have := y7T l (l.length + 1) (zi l id)
 unfold Yl
 omega
theorem y7V (q : List Int) (t : List y0) (l : List ya) (blk id : Int) (ht : TOk t) (hl : l.length ≤ 1048576) : KS (q, t, l, blk, id) = some (ans (ybS t l blk id)) := by
 unfold KS
 simp only [y05 l id hl, y22 q t blk _ ht (QG l id hl), Option.bind_some]
 rfl
theorem y7W (q : List Int) (t : List y0) (l : List ya) (blk id : Int) (ht : TOk t) (hl : l.length ≤ 1048576) : vd (q, t, l, blk, id) = some (ans (ybS t l blk id)) := by
 unfold vd
 simp only [y06 l id hl, y07 q t blk _ ht (QG l id hl), Option.bind_some]
 rfl
def yfs (t : List y0) (l : List ya) (k : y7) (id : Int) : Bool := (ybS t l k.1 id).1 && ((ybS t l k.1 id).2.2.1 == k.2.1)
theorem y7X (q : List Int) (t : List y0) (l : List ya) (k1 k2 k3 k4 k5 id : Int) (ht : TOk t) (hl : l.length ≤ 1048576) : KT (q, t, l, k1, k2, k3, k4, k5, id) = some (yfs t l (k1, k2, k3, k4, k5) id) := by
 unfold KT yfs
 simp only [y7V q t l k1 id ht hl, Option.bind_some, ans]
 cases (ybS t l k1 id).1 <;> rfl
def y6J (t : List y0) (l : List ya) (k : y7) (v : yh) : Bool := decide (v.2.2.1 > k.1) && yfs t l k v.2.1
def y9F (t : List y0) (l : List ya) (vs : List yh) (k : y7) : Bool := decide (0 ≤ zX (y6J t l k) vs 0)
theorem y1C (q : List Int) (t : List y0) (l : List ya) (cs : List y8) (vs : List yh) (z k1 k2 k3 k4 k5 : Int) (ht : TOk t) (hl : l.length ≤ 1048576) (hv : vs.length ≤ 1048576) : ji (q, t, l, cs, vs, z, k1, k2, k3, k4, k5) = some (y9F t l vs (k1, k2, k3, k4, k5)) := by
 unfold ji vE
 refine (YK (step := YZ _ _) (fun i => (i, q, t, l, cs, vs, z, k1, k2, k3, k4, k5)) (y6J t l (k1, k2, k3, k4, k5)) (fun _ => some true) (some false) yD vs (by omega) ?_ ?_).trans ?_
 ·intro again i h0 h1
  have hw : Go.IntKind.wrap .i64 (i + 1) = i + 1 := w64 (by omega) (by omega)
  unfold YZ y6J
  obtain ⟨⟨x1, x2, x3, x4⟩, hx⟩ : ∃ x, yc vs i = x := ⟨_, rfl⟩
  have hx' : vs.getD i.toNat yD = (x1, x2, x3, x4) := hx
  rw [hx']
  have e := y7X q t l k1 k2 k3 k4 k5 x2 ht hl
  simp only [Bool.cond_eq_ite, decide_eq_true_eq, h0, h1, if_true, hw, hx, e, Option.bind_some]
  by_cases hb : x3 > k1 <;> cases yfs t l (k1, k2, k3, k4, k5) x2 <;> simp [hb]
 ·intro again i hi
  unfold YZ
  simp only [Bool.cond_eq_ite, decide_eq_true_eq, if_neg hi]
 ·unfold y9F
  by_cases h : zX (y6J t l (k1, k2, k3, k4, k5)) vs 0 < 0
  ·rw [if_pos h, decide_eq_false (by omega)]
  ·rw [if_neg h, decide_eq_true (by omega)]
end Go.Proofs.YtjllpipmaejeoaaGreat.Pl
namespace Go.Proofs.YtjllpipmaejeoaaGreat.Pl
open Go.Proofs.YtjllpipmaejeoaaGreat.R Go.Proofs.YtjllpipmaejeoaaGreat.XR
def Ym (k : y7) : Bool := inR k.1 0 15 && (inR k.2.1 1 60 && (inR k.2.2.1 0 2 && (if k.2.2.1 = 1 then inR k.2.2.2.1 0 23 && inR k.2.2.2.2 0 999 else (k.2.2.2.1 == 0) && (k.2.2.2.2 == 0))))
theorem y10 (a b c d e : Int) : wK (a, b, c, d, e) = some (Ym (a, b, c, d, e)) := by
 unfold wK Ym
 simp only [Zj, Option.bind_some]
 by_cases hc : c = 1
 ·subst hc
  cases inR a 0 15 <;> cases inR b 1 60 <;> cases inR 1 0 2 <;> cases inR d 0 23 <;> rfl
 ·have hc' : (c == 1) = false := by simpa using hc
  rw [hc', if_neg hc]
  cases inR a 0 15 <;> cases inR b 1 60 <;> cases inR c 0 2 <;> cases (d == 0) <;> rfl
theorem y11 (a b c d e : Int) : wN (a, b, c, d, e) = some (Ym (a, b, c, d, e)) := by
 unfold wN Ym
 simp only [Za, Option.bind_some]
 by_cases hc : c = 1
 ·subst hc
  cases inR a 0 15 <;> cases inR b 1 60 <;> cases inR 1 0 2 <;> cases inR d 0 23 <;> rfl
 ·have hc' : (c != 1) = true := by simpa using hc
  rw [hc', if_neg hc]
  cases inR a 0 15 <;> cases inR b 1 60 <;> cases inR c 0 2 <;> cases (d == 0) <;> rfl
def JM (l : List y7) (i : Int) (a : y7) : Bool := decide (0 < i) && !wA (l.getD (i - 1).toNat yH) a
def wQ (l : List y7) : Bool := !Yo (fun _ a => !Ym a) l 0 && (!Yo (JM l) l 0 && decide ((l.length : Int) ≤ 60))
theorem y6K (l : List y7) (hl : l.length ≤ 1073741824) : JQ l = some (!Yo (JM l) l 0) := by
 unfold JQ qc
 have key := y3p (step := j9 (fun x2 => some x2) (fun x3 => some true)) (fun i (_ : Unit) => (l, i)) (fun i (s : Unit) a => if (decide (0 < i) && !wA (l.getD (i - 1).toNat yH) a) = true ∨ i = 0 then .error (some false) else .ok s) (fun _ => some true) yH l (by omega) (fun i _ => 1 ≤ i) ?_ ?_ 1 (by omega) () (by decide)
 ·rw [key]
  have h1 : Yo (JM l) l 0 = Yo (JM l) (l.drop 1) 1 := by
   cases l with
   | nil => rfl
   | cons a l => simp [Yo, JM]
  rw [h1]
  have h2 := y2H (fun i a => decide ((decide (0 < i) && !wA (l.getD (i - 1).toNat yH) a) = true ∨ i = 0)) (fun (s : Unit) _ => s) (some false) (fun _ => some true) (l.drop 1) 1 ()
  simp only [decide_eq_true_eq] at h2
  rw [show (1 : Int).toNat = 1 from rfl, h2]
  have h3 : Yo (fun i a => decide ((decide (0 < i) && !wA (l.getD (i - 1).toNat yH) a) = true ∨ i = 0)) (l.drop 1) 1 = Yo (JM l) (l.drop 1) 1 := y4V _ _ fun j a hj => by
   unfold JM
   have : ¬ j = 0 := by omega
   simp [this]
  rw [h3]
  cases Yo (JM l) (l.drop 1) 1 <;> rfl
 ·intro again i s h0 h1 hI
  have hi : 1 ≤ i := by
   have : (1 : Nat) ≤ i.toNat := hI
   omega
  have hw : Go.IntKind.wrap .i64 (i + 1) = i + 1 := w64 (by omega) (by omega)
  have hm : Go.IntKind.wrap .i64 (i - 1) = i - 1 := w64 (by omega) (by omega)
  refine ⟨?_, fun _ _ => by omega⟩
  unfold j9
  obtain ⟨⟨x1, x2, x3, x4, x5⟩, hx⟩ : ∃ x, y6 l i = x := ⟨_, rfl⟩
  have hx' : l.getD i.toNat yH = (x1, x2, x3, x4, x5) := hx
  obtain ⟨⟨y1, y2, y3, y4, y5⟩, hy⟩ : ∃ y, y6 l (i - 1) = y := ⟨_, rfl⟩
  have hy' : l.getD (i - 1).toNat yH = (y1, y2, y3, y4, y5) := hy
  rw [hx', hy']
  have h3 : 0 ≤ i - 1 := by omega
  have h4 : i - 1 < (l.length : Int) := by omega
  have h5 : 0 < i := by omega
  have h6 : ¬ i = 0 := by omega
  simp only [Bool.cond_eq_ite, decide_eq_true_eq, h0, h1, if_true, hw, hm, hx, hy, h3, h4, h5, h6, Qb, Option.bind_some, decide_true, Bool.true_and, or_false]
  cases wA (y1, y2, y3, y4, y5) (x1, x2, x3, x4, x5) <;> rfl
 ·intro again i s hi
  unfold j9
  simp only [Bool.cond_eq_ite, decide_eq_true_eq, if_neg hi]
theorem y6L (l : List y7) (hl : l.length ≤ 1073741824) : kU l = some (wQ l) := by
 unfold kU QY wQ
 refine (zK (step := JR _ _) (fun i => (l, i)) (fun _ a => !Ym a) (some false) (some (!Yo (JM l) l 0 && decide ((l.length : Int) ≤ 60))) yH l (by omega) ?_ ?_).trans ?_
 ·intro again i h0 h1
  have hw : Go.IntKind.wrap .i64 (i + 1) = i + 1 := w64 (by omega) (by omega)
  unfold JR
  obtain ⟨⟨x1, x2, x3, x4, x5⟩, hx⟩ : ∃ x, y6 l i = x := ⟨_, rfl⟩
  have hx' : l.getD i.toNat yH = (x1, x2, x3, x4, x5) := hx
  rw [hx']
  simp only [Bool.cond_eq_ite, decide_eq_true_eq, h0, h1, if_true, hw, hx, y10, Option.bind_some]
 ·intro again i hi
  unfold JR
  simp only [Bool.cond_eq_ite, decide_eq_true_eq, if_neg hi, y6K l hl, Option.bind_some]
  cases Yo (JM l) l 0 <;> rfl
 ·cases Yo (fun _ a => !Ym a) l 0 <;> rfl
theorem y6M (l : List y7) (hl : l.length ≤ 1073741824) : kW l = some (wQ l) := by
 unfold kW y03 wQ
 refine (zK (step := w5 _ _) (fun i => (l, l, (l.length : Int), i)) (fun i a => !Ym a || JM l i a) (some false) (some (decide ((l.length : Int) ≤ 60))) yH l (by omega) ?_ ?_).trans ?_
 ·intro again i h0 h1
  have hw : Go.IntKind.wrap .i64 (i + 1) = i + 1 := w64 (by omega) (by omega)
  have hm : Go.IntKind.wrap .i64 (i - 1) = i - 1 := w64 (by omega) (by omega)
  unfold w5 JM
  obtain ⟨⟨x1, x2, x3, x4, x5⟩, hx⟩ : ∃ x, y6 l i = x := ⟨_, rfl⟩
  have hx' : l.getD i.toNat yH = (x1, x2, x3, x4, x5) := hx
  obtain ⟨⟨y1, y2, y3, y4, y5⟩, hy⟩ : ∃ y, y6 l (i - 1) = y := ⟨_, rfl⟩
  have hy' : l.getD (i - 1).toNat yH = (y1, y2, y3, y4, y5) := hy
  rw [hx', hy']
  simp only [Bool.cond_eq_ite, decide_eq_true_eq, h0, h1, if_true, hw, hm, hx, hy, y11, Qc, Option.bind_some]
  cases Ym (x1, x2, x3, x4, x5)
  ·rfl
  ·by_cases h5 : 0 < i
   ·have h3 : 0 ≤ i - 1 := by omega
    have h4 : i - 1 < (l.length : Int) := by omega
    simp only [gt_iff_lt, h5, h3, h4, if_true, decide_true]
    cases wA (y1, y2, y3, y4, y5) (x1, x2, x3, x4, x5) <;> rfl
   ·simp [h5]
 ·intro again i hi
  unfold w5
  simp only [Bool.cond_eq_ite, decide_eq_true_eq, if_neg hi]
 ·rw [y9E]
  cases Yo (fun _ a => !Ym a) l 0 <;> cases Yo (JM l) l 0 <;> rfl
def y12 (_ : Int) (a : y9) : Bool := !wQ a || ((List.length a : Int) == 0)
def y08 (s : Int) (a : y9) : Int := Go.IntKind.wrap .i64 (s + (List.length a : Int))
def Ys (n : List y9) : Bool := !Yo y12 n 0 && (decide ((n.length : Int) ≤ 3) && decide (n.foldl y08 0 ≤ 8))
theorem y6N (n : List y9) (hn : n.length ≤ 1073741824) : JS n = some (n.foldl y08 0) := by
 unfold JS qd
 refine zW (step := ja _) (fun (i s : Int) => (s, i, n)) (fun s => some s) yT y08 n (by omega) (fun _ _ => True) ?_ ?_ 0 trivial
 ·intro again i s h0 h1 _
  have hw : Go.IntKind.wrap .i64 (i + 1) = i + 1 := w64 (by omega) (by omega)
  refine ⟨?_, trivial⟩
  unfold ja
  simp only [Bool.cond_eq_ite, decide_eq_true_eq, h0, h1, if_true, hw]
  rfl
 ·intro again i s hi
  unfold ja
  simp only [Bool.cond_eq_ite, decide_eq_true_eq, if_neg hi]
theorem vY (n : List y9) (hn : n.length ≤ 1073741824) (hm : ∀ s ∈ n, List.length s ≤ 1073741824) : zg n = some (Ys n) := by
 unfold zg qH Ys
 refine (zK (step := jL _ _) (fun i => (i, n)) y12 (some false) (some (decide ((n.length : Int) ≤ 3) && decide (n.foldl y08 0 ≤ 8))) yT n (by omega) ?_ ?_).trans ?_
 ·intro again i h0 h1
  have hw : Go.IntKind.wrap .i64 (i + 1) = i + 1 := w64 (by omega) (by omega)
  have e := y6L (yl n i) (hm _ (z4 yT n i h0 h1))
  unfold jL y12
  have hx : n.getD i.toNat yT = yl n i := rfl
  rw [hx]
  simp only [Bool.cond_eq_ite, decide_eq_true_eq, h0, h1, if_true, hw, e, Option.bind_some]
  cases wQ (yl n i)
  ·rfl
  ·rfl
 ·intro again i hi
  unfold jL
  simp only [Bool.cond_eq_ite, decide_eq_true_eq, if_neg hi, y6N n hn, Option.bind_some]
  by_cases h3 : (n.length : Int) ≤ 3 <;> simp [h3]
 ·cases Yo y12 n 0 <;> rfl
theorem vZ (n : List y9) (hn : n.length ≤ 1073741824) (hm : ∀ s ∈ n, List.length s ≤ 1073741824) : zB n = some (Ys n) := by
 unfold zB qY Ys
 refine (y2I (step := J2 _ _) (fun (i s : Int) => (s, n, (n.length : Int), i, n)) y12 y08 (some false) (fun s => some (decide ((n.length : Int) ≤ 3) && decide (s ≤ 8))) yT n (by omega) ?_ ?_ 0).trans ?_
 ·intro again i s h0 h1
  have hw : Go.IntKind.wrap .i64 (i + 1) = i + 1 := w64 (by omega) (by omega)
  have e := y6M (yl n i) (hm _ (z4 yT n i h0 h1))
  unfold J2 y12 y08
  have hx : n.getD i.toNat yT = yl n i := rfl
  rw [hx]
  simp only [Bool.cond_eq_ite, decide_eq_true_eq, h0, h1, if_true, hw, e, Option.bind_some]
  cases wQ (yl n i)
  ·rfl
  ·rfl
 ·intro again i s hi
  unfold J2
  simp only [Bool.cond_eq_ite, decide_eq_true_eq, if_neg hi]
  by_cases h3 : (n.length : Int) ≤ 3 <;> simp [h3]
 ·cases Yo y12 n 0 <;> rfl
end Go.Proofs.YtjllpipmaejeoaaGreat.Pl
namespace Go.Proofs.YtjllpipmaejeoaaGreat.Pl
open Go.Proofs.YtjllpipmaejeoaaGreat.R Go.Proofs.YtjllpipmaejeoaaGreat.XR
def small (is : List yb) (ns : List y0) (ags : List ya) (cs : List y8) (vs : List yh) : Prop :=
 is.length ≤ 1048576 ∧ ns.length ≤ 1048576 ∧ WG qt ns ≤ 1048576 ∧ ags.length ≤ 1048576 ∧ cs.length ≤ 1048576 ∧ vs.length ≤ 1048576
theorem Kr {ns : List y0} (h : WG qt ns ≤ 1048576) {n : List y9} (hn : n ∈ ns) : n.length ≤ 1048576 ∧ ∀ s ∈ n, List.length s ≤ 1048576 := by
 have h1 := (QB kZ hn).1
 have h2 := wz ku n
 have h3 : qt n = (List.length n : Int) + WG V7 n := rfl
 refine ⟨by omega, fun s hs => ?_⟩
 have h4 := (QB ku hs).1
 have h5 : V7 s = (List.length s : Int) := rfl
 omega
end Go.Proofs.YtjllpipmaejeoaaGreat.Pl
namespace Go.Proofs.YtjllpipmaejeoaaGreat.Pl
open Go.Proofs.YtjllpipmaejeoaaGreat.R Go.Proofs.YtjllpipmaejeoaaGreat.XR
def QR (a : y7) : Int := Go.IntKind.wrap .i64 (Go.IntKind.wrap .i64 ((64 : Int) * a.1) + a.2.1)
def yhm (q : List Int) (i : Int) (_ : Int) (a : y7) : Bool := decide (QR a < q.getD i.toNat 0) || (decide (i + 1 < (q.length : Int)) && decide (QR a ≥ q.getD (i + 1).toNat 0))
theorem TOk.node {t : List y0} (h : TOk t) {n : List y9} (hn : n ∈ t) : n.length ≤ 1048576 ∧ ∀ s ∈ n, List.length s ≤ 1048576 := Kr h.sum hn
theorem TOk.sumK {t : List y0} (h : TOk t) {n : List y9} (hn : n ∈ t) : WG V7 n ≤ 1048576 := by
 have h1 := (QB kZ hn).1
 have h2 := y0Z n
 have h3 := h.sum
 omega
theorem ybT {R : Type} (k0 : (Int × Bool × Int × List yb × List y0 × List y9) → Option R) (k1 : (Int × Int × List yb × List y0 × List y9) → Option R) (i k : Int) (q : List Int) (t : List y0) (n : List y9) (hk0 : 0 ≤ k) (hk : k < (n.length : Int)) (hi0 : 0 ≤ i) (hi : i < (q.length : Int)) (hq : q.length ≤ 1048576) (hs : List.length (yl n k) ≤ 1048576) :
  KF k0 k1 (i, k, 0, q, t, n) = if Yo (yhm q i) (yl n k) 0 = true then k0 (i, false, k, q, t, n) else k1 (i, k, q, t, n) := by
 unfold KF
 refine zK (step := jM k0 k1) (fun j => (i, k, j, q, t, n)) (yhm q i) _ _ yH (yl n k) (by omega) ?_ ?_
 ·intro again j h0 h1
  have hw : Go.IntKind.wrap .i64 (j + 1) = j + 1 := w64 (by omega) (by omega)
  have hwi : Go.IntKind.wrap .i64 (i + 1) = i + 1 := w64 (by omega) (by omega)
  unfold jM yhm Js Jr QR
  obtain ⟨⟨x1, x2, x3, x4, x5⟩, hx⟩ : ∃ x, y6 (yl n k) j = x := ⟨_, rfl⟩
  have hx' : (yl n k).getD j.toNat yH = (x1, x2, x3, x4, x5) := hx
  have e1 : q.getD i.toNat 0 = zt q i := rfl
  have e2 : q.getD (i + 1).toNat 0 = zt q (i + 1) := rfl
  rw [hx', e1, e2]
  have hi1 : 0 ≤ i + 1 := by omega
  simp only [Bool.cond_eq_ite, decide_eq_true_eq, h0, h1, hk0, hk, hi0, hi, hi1, if_true, hw, hwi, hx, Option.bind_some]
  by_cases h2 : Go.IntKind.wrap .i64 (Go.IntKind.wrap .i64 ((64 : Int) * x1) + x2) < zt q i
  ·simp [h2]
  ·by_cases h3 : i + 1 < (q.length : Int)
   ·simp [h2, h3]
   ·simp [h2, h3]
 ·intro again j hj
  unfold jM
  simp only [Bool.cond_eq_ite, decide_eq_true_eq, hk0, hk, if_true, if_neg hj]
def y9G (q : List Int) (i : Int) (_ : Int) (s : y9) : Bool := Yo (yhm q i) s 0
def yaH (n : y0) : Bool := ((yF n).length : Int) == 0
def y4a (q : List Int) (i : Int) (n : y0) : Bool := Ys n && (!(decide (0 < i) && yaH n) && !Yo (y9G q i) n 0)
theorem y4b (q : List Int) (t : List y0) (i : Int) (ht : TOk t) (hi0 : 0 ≤ i) (hi : i < (t.length : Int)) (hq : q.length = t.length) : W4 (q, t, i) = some (y4a q i (yd t i)) := by
 have hmem : yd t i ∈ t := z4 yi t i hi0 hi
 obtain ⟨hn, hs⟩ := ht.node hmem
 have hlen := ht.len
 have hq1 : i < (q.length : Int) := by omega
 have hq2 : q.length ≤ 1048576 := by omega
 have e1 := vY (yd t i) (by omega) (fun s hh => by have := hs s hh; omega)
 have e2 : yz (yd t i) = some (yF (yd t i)) := YR _ (by omega) (ht.sumK hmem)
 unfold W4 y4a yaH
 simp only [hi0, hi, if_true, e1, Option.bind_some]
 generalize yd t i = n at *
 cases Ys n
 ·rfl
 ·have key : KH (fun x10 => some x10) (fun x11 => some true) (i, 0, q, t, n) = some (!Yo (y9G q i) n 0) := by
   unfold KH
   refine (zK (step := jN _ _) (fun k => (i, k, q, t, n)) (y9G q i) (some false) (some true) yT n (by omega) ?_ ?_).trans ?_
   ·intro again k h0 h1
    have hw : Go.IntKind.wrap .i64 (k + 1) = k + 1 := w64 (by omega) (by omega)
    have hsk : List.length (yl n k) ≤ 1048576 := hs _ (z4 yT n k h0 h1)
    unfold jN y9G
    have hx : n.getD k.toNat yT = yl n k := rfl
    rw [hx]
    simp only [Bool.cond_eq_ite, decide_eq_true_eq, h1, if_true, ybT _ _ i k q t n h0 h1 hi0 hq1 hq2 hsk, hw]
   ·intro again k hk
    unfold jN
    simp only [Bool.cond_eq_ite, decide_eq_true_eq, if_neg hk]
   ·cases Yo (y9G q i) n 0 <;> rfl
  simp only [key, e2, Option.bind_some, Bool.not_true, cond_false, gt_iff_lt]
  by_cases h0 : 0 < i
  ·simp only [h0, decide_true, cond_true, Bool.true_and]
   cases (((yF n).length : Int) == 0) <;> rfl
  ·simp only [h0, decide_false, cond_false, Bool.false_and]
   rfl
theorem ybU {R : Type} (k0 : (Int × Bool × List y9 × Int × Int × List yb × List y0) → Option R) (k1 : (Int × List y9 × Int × Int × List yb × List y0) → Option R) (i k m : Int) (q : List Int) (t : List y0) (n : List y9) (s : List y7) (hi0 : 0 ≤ i) (hi : i < (q.length : Int)) (hq : q.length ≤ 1048576) (hs : s.length ≤ 1048576) :
  kc k0 k1 (i, n, m, k, s, (s.length : Int), 0, q, t) = if Yo (yhm q i) s 0 = true then k0 (i, false, n, m, k, q, t) else k1 (i, n, m, k, q, t) := by
 unfold kc
 refine zK (step := Zv k0 k1) (fun j => (i, n, m, k, s, (s.length : Int), j, q, t)) (yhm q i) _ _ yH s (by omega) ?_ ?_
 ·intro again j h0 h1
  have hw : Go.IntKind.wrap .i64 (j + 1) = j + 1 := w64 (by omega) (by omega)
  have hwi : Go.IntKind.wrap .i64 (i + 1) = i + 1 := w64 (by omega) (by omega)
  unfold Zv yhm Z3 QR
  obtain ⟨⟨x1, x2, x3, x4, x5⟩, hx⟩ : ∃ x, y6 s j = x := ⟨_, rfl⟩
  have hx' : s.getD j.toNat yH = (x1, x2, x3, x4, x5) := hx
  have e1 : q.getD i.toNat 0 = zt q i := rfl
  have e2 : q.getD (i + 1).toNat 0 = zt q (i + 1) := rfl
  rw [hx', e1, e2]
  have hi1 : 0 ≤ i + 1 := by omega
  simp only [Bool.cond_eq_ite, decide_eq_true_eq, h0, h1, hi0, hi, hi1, if_true, hw, hwi, hx, Option.bind_some]
  by_cases h2 : Go.IntKind.wrap .i64 (Go.IntKind.wrap .i64 ((64 : Int) * x1) + x2) < zt q i
  ·simp [h2]
  ·by_cases h3 : i + 1 < (q.length : Int)
   ·simp [h2, h3]
   ·simp [h2, h3]
 ·intro again j hj
  unfold Zv
  simp only [Bool.cond_eq_ite, decide_eq_true_eq, if_neg hj]
theorem y2g (q : List Int) (t : List y0) (i : Int) (ht : TOk t) (hi0 : 0 ≤ i) (hi : i < (t.length : Int)) (hq : q.length = t.length) : J3 (q, t, i) = some (!Yo (y9G q i) (yd t i) 0) := by
 have hmem : yd t i ∈ t := z4 yi t i hi0 hi
 obtain ⟨hn, hs⟩ := ht.node hmem
 have hlen := ht.len
 have hq1 : i < (q.length : Int) := by omega
 have hq2 : q.length ≤ 1048576 := by omega
 unfold J3 Vk
 simp only [hi0, hi, if_true]
 generalize yd t i = n at *
 refine (zK (step := Zw _ _) (fun k => (i, n, (n.length : Int), k, q, t)) (y9G q i) (some false) (some true) yT n (by omega) ?_ ?_).trans ?_
 ·intro again k h0 h1
  have hw : Go.IntKind.wrap .i64 (k + 1) = k + 1 := w64 (by omega) (by omega)
  have hsk : List.length (yl n k) ≤ 1048576 := hs _ (z4 yT n k h0 h1)
  unfold Zw y9G
  have hx : n.getD k.toNat yT = yl n k := rfl
  rw [hx]
  simp only [Bool.cond_eq_ite, decide_eq_true_eq, h0, h1, if_true, ybU _ _ i k (n.length : Int) q t n _ hi0 hq1 hq2 hsk, hw]
 ·intro again k hk
  unfold Zw
  simp only [Bool.cond_eq_ite, decide_eq_true_eq, if_neg hk]
 ·cases Yo (y9G q i) n 0 <;> rfl
def ydC (q : List Int) (i : Int) : Bool := decide (0 < i) && decide (q.getD (i - 1).toNat 0 ≥ q.getD i.toNat 0)
def V0 (q : List Int) (i : Int) (n : y0) : Bool := ydC q i || !y4a q i n
def y3r (s : Int) (n : y0) : Int := Go.IntKind.wrap .i64 (s + ((yF n).length : Int))
def zp (q : List Int) (t : List y0) : Bool :=
 inR (t.length : Int) 1 20 && (decide (q.length = t.length) && ((q.getD 0 0 == 0) && (!Yo (V0 q) t 0 && decide (((yu t).length : Int) ≤ 60))))
theorem ydD : ∀ (t : List y0) (s : List y7), (s.length : Int) + WG qt t ≤ 1048576 → t.foldl y3r (s.length : Int) = ((t.foldl WH s).length : Int)
 | [], _, _ => rfl
 | n :: t, s, h => by
  rw [Y1] at h
  have h1 := K0 n
  have h2 := y0Z n
  have h3 := wz kZ t
  have h4 : (WH s n).length = s.length + (yF n).length := List.length_append
  rw [List.foldl_cons, List.foldl_cons, show y3r (s.length : Int) n = ((WH s n).length : Int) by
   unfold y3r
   rw [h4, w64 (by omega) (by omega)]
   omega]
  exact ydD t (WH s n) (by rw [h4]; omega)
theorem V1 (q : List Int) (t : List y0) (ht : TOk t) : Ye (q, t) = some (zp q t) := by
 have hlen := ht.len
 unfold Ye zp
 simp only [Zj, Option.bind_some]
 cases h1 : inR (t.length : Int) 1 20
 ·rfl
 by_cases hq : q.length = t.length
 ·have hq' : ((q.length : Int) != (t.length : Int)) = false := by simp [hq]
  have hpos : 0 < (q.length : Int) := by
   have := (zo.1 h1).1
   omega
  have hd : decide (q.length = t.length) = true := by simp [hq]
  simp only [hq', hd, Bool.not_true, cond_false, cond_true, Option.bind_some, Bool.true_and]
  rw [if_pos (Int.le_refl _), if_pos (by omega)]
  have e0 : zt q 0 = q.getD 0 0 := rfl
  rw [e0]
  try simp only [Option.bind_some]
  by_cases hz : q.getD 0 0 = 0
  ·have hz1 : (q.getD 0 0 != 0) = false := by rw [hz]; rfl
   have hz2 : (q.getD 0 0 == 0) = true := by rw [hz]; rfl
   rw [hz1, hz2]
   simp only [cond_false, Bool.true_and]
   unfold qI
   refine (zK (step := jO _ _) (fun i => (i, q, t)) (V0 q) (some false) (some (decide (((yu t).length : Int) ≤ 60))) yi t (by omega) ?_ ?_).trans ?_
   ·intro again i h0 h1
    have hw : Go.IntKind.wrap .i64 (i + 1) = i + 1 := w64 (by omega) (by omega)
    have hm : Go.IntKind.wrap .i64 (i - 1) = i - 1 := w64 (by omega) (by omega)
    have e := y4b q t i ht h0 h1 hq
    unfold jO V0 ydC
    have hx : t.getD i.toNat yi = yd t i := rfl
    have e1 : q.getD i.toNat 0 = zt q i := rfl
    have e2 : q.getD (i - 1).toNat 0 = zt q (i - 1) := rfl
    rw [hx, e1, e2]
    simp only [Bool.cond_eq_ite, decide_eq_true_eq, h0, h1, if_true, hw, hm, e, gt_iff_lt]
    by_cases h5 : 0 < i
    ·rw [if_pos h5, if_pos (by omega), if_pos (by omega), if_pos (by omega)]
     simp only [h5, decide_true, Option.bind_some, Bool.true_and]
     cases decide (zt q (i - 1) ≥ zt q i) <;> cases y4a q i (yd t i) <;> rfl
    ·rw [if_neg h5]
     simp only [h5, decide_false, Option.bind_some, Bool.false_and]
     cases y4a q i (yd t i) <;> rfl
   ·intro again i hi
    have e : yI (q, t) = some (yu t) := Yr q t (by omega) ht.nodes ht.sum
    unfold jO
    simp only [Bool.cond_eq_ite, decide_eq_true_eq, if_neg hi, e, Option.bind_some]
   ·cases Yo (V0 q) t 0 <;> rfl
  ·have hz1 : (q.getD 0 0 != 0) = true := by simpa using hz
   have hz2 : (q.getD 0 0 == 0) = false := by simpa using hz
   rw [hz1, hz2]
   rfl
 ·have hq' : ((q.length : Int) != (t.length : Int)) = true := by
   simp only [bne_iff_ne, ne_eq]
   omega
  have hd : decide (q.length = t.length) = false := by simp [hq]
  simp only [hq', hd, Bool.not_true, cond_false, cond_true, Option.bind_some, Bool.false_and, Bool.and_false]
theorem V2 (q : List Int) (t : List y0) (ht : TOk t) : Yf (q, t) = some (zp q t) := by
 have hlen := ht.len
 unfold Yf zp
 simp only [Za, Option.bind_some]
 cases h1 : inR (t.length : Int) 1 20
 ·rfl
 by_cases hq : q.length = t.length
 ·have hq' : ((q.length : Int) != (t.length : Int)) = false := by simp [hq]
  have hpos : 0 < (q.length : Int) := by
   have := (zo.1 h1).1
   omega
  have hd : decide (q.length = t.length) = true := by simp [hq]
  simp only [hq', hd, Bool.not_true, cond_false, cond_true, Option.bind_some, Bool.true_and]
  rw [if_pos (Int.le_refl _), if_pos (by omega)]
  have e0 : zt q 0 = q.getD 0 0 := rfl
  rw [e0]
  try simp only [Option.bind_some]
  by_cases hz : q.getD 0 0 = 0
  ·have hz1 : (q.getD 0 0 != 0) = false := by rw [hz]; rfl
   have hz2 : (q.getD 0 0 == 0) = true := by rw [hz]; rfl
   rw [hz1, hz2]
   simp only [cond_false, Bool.true_and]
   unfold qZ
   refine (y2I (step := J4 _ _) (fun (i s : Int) => (s, t, (t.length : Int), i, q, t)) (V0 q) y3r (some false) (fun s => some (decide (s ≤ 60))) yi t (by omega) ?_ ?_ 0).trans ?_
   ·intro again i s h0 h1
    have hmem : yd t i ∈ t := z4 yi t i h0 h1
    obtain ⟨hn, hss⟩ := ht.node hmem
    have hw : Go.IntKind.wrap .i64 (i + 1) = i + 1 := w64 (by omega) (by omega)
    have hm : Go.IntKind.wrap .i64 (i - 1) = i - 1 := w64 (by omega) (by omega)
    have e3 := vZ (yd t i) (by omega) (fun s hh => by have := hss s hh; omega)
    have e4 := y2g q t i ht h0 h1 hq
    have e5 : yL (yd t i) = some (yF (yd t i)) := jp _ (by omega) (ht.sumK hmem)
    unfold J4 V0 ydC y4a yaH y3r
    have hx : t.getD i.toNat yi = yd t i := rfl
    have e1 : q.getD i.toNat 0 = zt q i := rfl
    have e2 : q.getD (i - 1).toNat 0 = zt q (i - 1) := rfl
    rw [hx, e1, e2]
    simp only [Bool.cond_eq_ite, decide_eq_true_eq, h0, h1, if_true, hw, hm, e3, e4, e5, gt_iff_lt, Option.bind_some]
    by_cases h5 : 0 < i
    ·rw [if_pos h5, if_pos (by omega), if_pos (by omega), if_pos (by omega)]
     simp only [h5, decide_true, Option.bind_some, Bool.true_and, if_true]
     cases decide (zt q (i - 1) ≥ zt q i) <;> cases Ys (yd t i) <;> cases Yo (y9G q i) (yd t i) 0 <;> cases (((yF (yd t i)).length : Int) == 0) <;> rfl
    ·rw [if_neg h5]
     simp only [h5, decide_false, Option.bind_some, Bool.false_and, if_false]
     cases Ys (yd t i) <;> cases Yo (y9G q i) (yd t i) 0 <;> rfl
   ·intro again i s hi
    unfold J4
    simp only [Bool.cond_eq_ite, decide_eq_true_eq, if_neg hi]
   ·have := ydD t [] (by have := ht.sum; simpa using this)
    simp only [List.length_nil] at this
    rw [show ((0 : Nat) : Int) = 0 from rfl] at this
    rw [this]
    unfold yu
    cases Yo (V0 q) t 0 <;> rfl
  ·have hz1 : (q.getD 0 0 != 0) = true := by simpa using hz
   have hz2 : (q.getD 0 0 == 0) = false := by simpa using hz
   rw [hz1, hz2]
   rfl
 ·have hq' : ((q.length : Int) != (t.length : Int)) = true := by
   simp only [bne_iff_ne, ne_eq]
   omega
  have hd : decide (q.length = t.length) = false := by simp [hq]
  simp only [hq', hd, Bool.not_true, cond_false, cond_true, Option.bind_some, Bool.false_and, Bool.and_false]
end Go.Proofs.YtjllpipmaejeoaaGreat.Pl
namespace Go.Proofs.YtjllpipmaejeoaaGreat.Pl
open Go.Proofs.YtjllpipmaejeoaaGreat.R Go.Proofs.YtjllpipmaejeoaaGreat.XR
def isW (n : Int) : Bool := inR n 0 65535
theorem Vt (x : Int) : ze x = some (isW x) := by unfold ze; rw [Zj]; rfl
theorem y3s (x : Int) : ZU x = some (isW x) := by unfold ZU; rw [Za]; rfl
def y6O (c : Int) : Bool := inR c 97 122 || inR c 48 57
def VO (l : List UInt8) : Bool := l.all fun c => y6O (c.toNat : Int)
def YM (s : ByteArray) : Bool := VO s.data.toList && inR s.size 1 6
theorem yaI (c : UInt8) : Go.IntKind.wrap .i64 (c.toNat : Int) = c.toNat := by
 have := c.toNat_lt
 exact w64 (by omega) (by omega)
theorem yft (s : ByteArray) (i : Nat) (h : i < s.size) : ByteArray.get s i h = s.data.toList[i]'(by rw [Array.length_toList]; exact h) := by
 rw [Array.getElem_toList]
 rfl
theorem y7Y (s : ByteArray) (i : Nat) (h : i < s.size) : s.data.toList.drop i = ByteArray.get s i h :: s.data.toList.drop (i + 1) := by
 rw [yft, ← List.drop_eq_getElem_cons]
theorem wg (s : ByteArray) (hs : s.size ≤ maxLen) : Yd s = some (YM s) := by
 have hm : (s.size : Int) ≤ 9223372036854775807 := by simp only [maxLen] at hs; omega
 unfold Yd qG
 rw [ZH (fun t : ByteArray × Int => t.1.size - t.2.toNat) (fun t => t.1 = s ∧ 0 ≤ t.2 ∧ t.2 ≤ s.size) (fun t => if VO (t.1.data.toList.drop t.2.toNat) then some (inR s.size 1 6) else some false) ?_ (s, 0) ⟨rfl, by simp, by simp⟩ (by simp only [maxLen] at hs; simp; omega)]
 ·unfold YM
  cases h : VO s.data.toList <;> simp [h]
 ·rintro again ⟨s', i⟩ ⟨rfl, h0, h1⟩ hag
  simp only at h0 h1 hs hm ⊢
  unfold KA
  simp only [Bool.cond_eq_ite, decide_eq_true_eq]
  by_cases hi : i < (s'.size : Int)
  ·have hn : i.toNat < s'.size := by omega
   rw [if_pos hi, if_pos h0, dif_pos hn]
   simp only [Zj, Option.bind_some, if_pos h0, dif_pos hn, yaI]
   rw [y7Y s' i.toNat hn]
   have hw : Go.IntKind.wrap .i64 (i + 1) = i + 1 := w64 (by omega) (by omega)
   have e1 : (i + 1).toNat = i.toNat + 1 := by omega
   have hag' := hag (s', i + 1) ⟨rfl, by simp only; omega, by simp only; omega⟩ (by simp only; omega)
   simp only [VO, List.all_cons, y6O] at hag' ⊢
   rw [hw, hag', e1]
   obtain ⟨c, hc⟩ : ∃ c, ByteArray.get s' i.toNat hn = c := ⟨_, rfl⟩
   simp only [hc]
   cases inR (c.toNat : Int) 97 122 <;> cases inR (c.toNat : Int) 48 57 <;> simp
  ·rw [if_neg hi, List.drop_of_length_le (by rw [Array.length_toList]; show s'.size ≤ _; omega)]
   simp [VO, Zj]
theorem y09 (s : ByteArray) (hs : s.size ≤ maxLen) : JB s = some (YM s) := by
 have hm : (s.size : Int) ≤ 9223372036854775807 := by simp only [maxLen] at hs; omega
 unfold JB Q2
 rw [ZH (fun t : ByteArray × Int => t.1.size - t.2.toNat) (fun t => t.1 = s ∧ 0 ≤ t.2 ∧ t.2 ≤ s.size) (fun t => if VO (t.1.data.toList.drop t.2.toNat) then some (inR s.size 1 6) else some false) ?_ (s, 0) ⟨rfl, by simp, by simp⟩ (by simp only [maxLen] at hs; simp; omega)]
 ·unfold YM
  cases h : VO s.data.toList <;> simp [h]
 ·rintro again ⟨s', i⟩ ⟨rfl, h0, h1⟩ hag
  simp only at h0 h1 hs hm ⊢
  unfold v8
  simp only [Bool.cond_eq_ite, decide_eq_true_eq]
  by_cases hi : i < (s'.size : Int)
  ·have hn : i.toNat < s'.size := by omega
   rw [if_pos hi, if_pos h0, dif_pos hn]
   simp only [Za, Option.bind_some, if_pos h0, dif_pos hn, yaI]
   rw [y7Y s' i.toNat hn]
   have hw : Go.IntKind.wrap .i64 (i + 1) = i + 1 := w64 (by omega) (by omega)
   have e1 : (i + 1).toNat = i.toNat + 1 := by omega
   have hag' := hag (s', i + 1) ⟨rfl, by simp only; omega, by simp only; omega⟩ (by simp only; omega)
   simp only [VO, List.all_cons, y6O] at hag' ⊢
   rw [hw, hag', e1]
   obtain ⟨c, hc⟩ : ∃ c, ByteArray.get s' i.toNat hn = c := ⟨_, rfl⟩
   simp only [hc]
   cases inR (c.toNat : Int) 97 122 <;> cases inR (c.toNat : Int) 48 57 <;> simp
  ·rw [if_neg hi, List.drop_of_length_le (by rw [Array.length_toList]; show s'.size ≤ _; omega)]
   simp [VO, Za]
end Go.Proofs.YtjllpipmaejeoaaGreat.Pl
namespace Go.Proofs.YtjllpipmaejeoaaGreat.Pl
open Go.Proofs.YtjllpipmaejeoaaGreat.R Go.Proofs.YtjllpipmaejeoaaGreat.XR
def ybV (l : List ya) (i : Int) : List ya := List.drop (Int.toNat (0 : Int)) (List.take (Int.toNat i) l)
def y2h (l : List ya) (i : Int) (a : ya) : Bool := !inR a.1 1 60 || ((decide (0 < i) && decide ((l.getD (i - 1).toNat zq).1 ≥ a.1)) || (a.2 != 0 && decide (zi (ybV l i) a.2 < 0)))
def jA (l : List ya) : Bool := !Yo (y2h l) l 0 && decide ((l.length : Int) ≤ 16)
theorem yaJ (l : List ya) (i : Int) : (ybV l i).length ≤ l.length := by
 unfold ybV
 simp only [List.length_drop, List.length_take]
 omega
theorem kK (l : List ya) (hl : l.length ≤ 1048576) : YV l = some (jA l) := by
 unfold YV qJ jA
 refine (zK (step := jP _ _) (fun i => (l, i)) (y2h l) (some false) (some (decide ((l.length : Int) ≤ 16))) zq l (by omega) ?_ ?_).trans ?_
 ·intro again i h0 h1
  have hw : Go.IntKind.wrap .i64 (i + 1) = i + 1 := w64 (by omega) (by omega)
  have hm : Go.IntKind.wrap .i64 (i - 1) = i - 1 := w64 (by omega) (by omega)
  unfold jP y2h
  obtain ⟨⟨x1, x2⟩, hx⟩ : ∃ x, yK l i = x := ⟨_, rfl⟩
  have hx' : l.getD i.toNat zq = (x1, x2) := hx
  have hy : l.getD (i - 1).toNat zq = yK l (i - 1) := rfl
  have e : zF (List.drop (Int.toNat (0 : Int)) (List.take (Int.toNat i) l), x2) = some (zi (ybV l i) x2) := Z9 (ybV l i) x2 (by have := yaJ l i; omega)
  rw [hx', hy]
  have h2 : i ≤ (l.length : Int) := by omega
  simp only [Bool.cond_eq_ite, decide_eq_true_eq, h0, h1, h2, if_true, hw, hm, hx, Zj, e, Option.bind_some, Int.le_refl, gt_iff_lt]
  cases inR x1 1 60
  ·rfl
  ·by_cases h5 : 0 < i
   ·have h3 : 0 ≤ i - 1 := by omega
    have h4 : i - 1 < (l.length : Int) := by omega
    simp only [h5, h3, h4, if_true, decide_true]
    cases decide ((yK l (i - 1)).1 ≥ x1) <;> cases (x2 != 0) <;> cases decide (zi (ybV l i) x2 < 0) <;> rfl
   ·simp only [h5, if_false, decide_false]
    cases (x2 != 0) <;> cases decide (zi (ybV l i) x2 < 0) <;> rfl
 ·intro again i hi
  unfold jP
  simp only [Bool.cond_eq_ite, decide_eq_true_eq, if_neg hi]
 ·cases Yo (y2h l) l 0 <;> rfl
theorem y4c (l : List ya) (hl : l.length ≤ 1048576) : Ws l = some (jA l) := by
 unfold Ws Q0 jA
 refine (zK (step := J5 _ _) (fun i => (l, l, (l.length : Int), i)) (y2h l) (some false) (some (decide ((l.length : Int) ≤ 16))) zq l (by omega) ?_ ?_).trans ?_
 ·intro again i h0 h1
  have hw : Go.IntKind.wrap .i64 (i + 1) = i + 1 := w64 (by omega) (by omega)
  have hm : Go.IntKind.wrap .i64 (i - 1) = i - 1 := w64 (by omega) (by omega)
  unfold J5 y2h
  obtain ⟨⟨x1, x2⟩, hx⟩ : ∃ x, yK l i = x := ⟨_, rfl⟩
  have hx' : l.getD i.toNat zq = (x1, x2) := hx
  have hy : l.getD (i - 1).toNat zq = yK l (i - 1) := rfl
  have e : Z4 (List.drop (Int.toNat (0 : Int)) (List.take (Int.toNat i) l), x2) = some (zi (ybV l i) x2) := Kp (ybV l i) x2 (by have := yaJ l i; omega)
  rw [hx', hy]
  have h2 : i ≤ (l.length : Int) := by omega
  simp only [Bool.cond_eq_ite, decide_eq_true_eq, h0, h1, h2, if_true, hw, hm, hx, Za, e, Option.bind_some, Int.le_refl, gt_iff_lt]
  cases inR x1 1 60
  ·rfl
  ·by_cases h5 : 0 < i
   ·have h3 : 0 ≤ i - 1 := by omega
    have h4 : i - 1 < (l.length : Int) := by omega
    simp only [h5, h3, h4, if_true, decide_true]
    cases decide ((yK l (i - 1)).1 ≥ x1) <;> cases (x2 != 0) <;> cases decide (zi (ybV l i) x2 < 0) <;> rfl
   ·simp only [h5, if_false, decide_false]
    cases (x2 != 0) <;> cases decide (zi (ybV l i) x2 < 0) <;> rfl
 ·intro again i hi
  unfold J5
  simp only [Bool.cond_eq_ite, decide_eq_true_eq, if_neg hi]
 ·cases Yo (y2h l) l 0 <;> rfl
def Vu (id : Int) (s : List Int) (a : ya) : List Int := if (a.2 == id && id != 0) = true then s ++ [a.1] else s
def Y2 (l : List ya) (id : Int) : List Int := l.foldl (Vu id) []
theorem y4W (id : Int) (s : List Int) (a : ya) : (Vu id s a).length ≤ s.length + 1 := by
 unfold Vu
 split <;> simp
theorem kL (l : List ya) (id : Int) (hl : l.length ≤ 1048576) : ZP (l, id) = some (Y2 l id) := by
 unfold ZP qK Y2
 refine zW (step := jQ _) (fun (i : Int) (s : List Int) => (l, id, i, s)) (fun s => some s) zq (Vu id) l (by omega) (fun i s => s.length ≤ i) ?_ ?_ [] (by simp)
 ·intro again i s h0 h1 hI
  have hw : Go.IntKind.wrap .i64 (i + 1) = i + 1 := w64 (by omega) (by omega)
  have hs := y4W id s (l.getD i.toNat zq)
  refine ⟨?_, by omega⟩
  have c1 : (s.length + 1) * 8 < 140737488355328 := by omega
  clear hs
  unfold jQ Vu
  obtain ⟨⟨x1, x2⟩, hx⟩ : ∃ x, yK l i = x := ⟨_, rfl⟩
  have hx' : l.getD i.toNat zq = (x1, x2) := hx
  rw [hx']
  simp only [Bool.cond_eq_ite, decide_eq_true_eq, h0, h1, if_true, hw, hx, List.length_cons, List.length_nil, Nat.zero_add, c1]
  cases (x2 == id) <;> cases (id != 0) <;> rfl
 ·intro again i s hi
  unfold jQ
  simp only [Bool.cond_eq_ite, decide_eq_true_eq, if_neg hi]
theorem ydE (l : List ya) : Y2 l 0 = [] := by
 have : ∀ (l : List ya) (s : List Int), l.foldl (Vu 0) s = s := by
  intro l
  induction l with
  | nil => intro s; rfl
  | cons a l ih =>
   intro s
   rw [List.foldl_cons, ih]
   unfold Vu
   simp
 exact this l []
theorem y4d (l : List ya) (id : Int) (hl : l.length ≤ 1048576) : Wt (l, id) = some (Y2 l id) := by
 unfold Wt
 by_cases hid : id = 0
 ·subst hid
  rw [ydE]
  rfl
 ·have hid1 : (id == 0) = false := by simpa using hid
  have hid2 : (id != 0) = true := by simpa using hid
  simp only [hid1, cond_false]
  unfold Q1 Y2
  refine zW (step := J6 _) (fun (i : Int) (s : List Int) => (id, l, (l.length : Int), i, s)) (fun s => some s) zq (Vu id) l (by omega) (fun i s => s.length ≤ i) ?_ ?_ [] (by simp)
  ·intro again i s h0 h1 hI
   have hw : Go.IntKind.wrap .i64 (i + 1) = i + 1 := w64 (by omega) (by omega)
   have hs := y4W id s (l.getD i.toNat zq)
   refine ⟨?_, by omega⟩
   have c1 : (s.length + 1) * 8 < 140737488355328 := by omega
   clear hs
   unfold J6 Vu
   obtain ⟨⟨x1, x2⟩, hx⟩ : ∃ x, yK l i = x := ⟨_, rfl⟩
   have hx' : l.getD i.toNat zq = (x1, x2) := hx
   rw [hx']
   simp only [Bool.cond_eq_ite, decide_eq_true_eq, h0, h1, if_true, hw, hx, List.length_cons, List.length_nil, Nat.zero_add, c1, hid2]
   cases (x2 == id) <;> rfl
  ·intro again i s hi
   unfold J6
   simp only [Bool.cond_eq_ite, decide_eq_true_eq, if_neg hi]
def y7Z (_ : Int) (a : y8) : Bool := !inR a.1 0 999 || (!isW a.2.2 || (!a.2.1 && a.2.2 != 0))
def zr (l : List y8) : Bool := !Yo y7Z l 0 && ((l.length : Int) == 24)
theorem Ji (l : List y8) (hl : l.length ≤ 1048576) : Ze l = some (zr l) := by
 unfold Ze qe zr
 refine (zK (step := jb _ _) (fun i => (l, i)) y7Z (some false) (some ((l.length : Int) == 24)) yN l (by omega) ?_ ?_).trans ?_
 ·intro again i h0 h1
  have hw : Go.IntKind.wrap .i64 (i + 1) = i + 1 := w64 (by omega) (by omega)
  unfold jb y7Z
  obtain ⟨⟨x1, x2, x3⟩, hx⟩ : ∃ x, ym l i = x := ⟨_, rfl⟩
  have hx' : l.getD i.toNat yN = (x1, x2, x3) := hx
  rw [hx']
  simp only [Bool.cond_eq_ite, decide_eq_true_eq, h0, h1, if_true, hw, hx, Zj, Vt, Option.bind_some]
  cases inR x1 0 999 <;> cases isW x3 <;> cases x2 <;> cases (x3 != 0) <;> rfl
 ·intro again i hi
  unfold jb
  simp only [Bool.cond_eq_ite, decide_eq_true_eq, if_neg hi]
 ·cases Yo y7Z l 0 <;> rfl
theorem vj (l : List y8) (hl : l.length ≤ 1048576) : Zh l = some (zr l) := by
 unfold Zh qj zr
 refine (zK (step := jk _ _) (fun i => (l, l, (l.length : Int), i)) y7Z (some false) (some ((l.length : Int) == 24)) yN l (by omega) ?_ ?_).trans ?_
 ·intro again i h0 h1
  have hw : Go.IntKind.wrap .i64 (i + 1) = i + 1 := w64 (by omega) (by omega)
  unfold jk y7Z
  obtain ⟨⟨x1, x2, x3⟩, hx⟩ : ∃ x, ym l i = x := ⟨_, rfl⟩
  have hx' : l.getD i.toNat yN = (x1, x2, x3) := hx
  rw [hx']
  simp only [Bool.cond_eq_ite, decide_eq_true_eq, h0, h1, if_true, hw, hx, Za, y3s, Option.bind_some]
  cases inR x1 0 999 <;> cases isW x3 <;> cases x2 <;> cases (x3 != 0) <;> rfl
 ·intro again i hi
  unfold jk
  simp only [Bool.cond_eq_ite, decide_eq_true_eq, if_neg hi]
 ·cases Yo y7Z l 0 <;> rfl
def VP (s : Int) (a : y8) : Int := if a.2.1 = true then Go.IntKind.wrap .i64 (s + 1) else s
def y4e (l : List y8) : Int := l.foldl VP 0
theorem y80 (l : List y8) (hl : l.length ≤ 1048576) : je l = some (y4e l) := by
 unfold je vC y4e
 refine zW (step := YW _) (fun (i s : Int) => (l, s, i)) (fun s => some s) yN VP l (by omega) (fun _ _ => True) ?_ ?_ 0 trivial
 ·intro again i s h0 h1 _
  have hw : Go.IntKind.wrap .i64 (i + 1) = i + 1 := w64 (by omega) (by omega)
  refine ⟨?_, trivial⟩
  unfold YW VP
  obtain ⟨⟨x1, x2, x3⟩, hx⟩ : ∃ x, ym l i = x := ⟨_, rfl⟩
  have hx' : l.getD i.toNat yN = (x1, x2, x3) := hx
  rw [hx']
  simp only [Bool.cond_eq_ite, decide_eq_true_eq, h0, h1, if_true, hw, hx]
  cases x2 <;> rfl
 ·intro again i s hi
  unfold YW
  simp only [Bool.cond_eq_ite, decide_eq_true_eq, if_neg hi]
theorem y81 (l : List y8) (hl : l.length ≤ 1048576) : jl l = some (y4e l) := by
 unfold jl vH y4e
 refine zW (step := Z5 _) (fun (i s : Int) => (s, l, (l.length : Int), i)) (fun s => some s) yN VP l (by omega) (fun _ _ => True) ?_ ?_ 0 trivial
 ·intro again i s h0 h1 _
  have hw : Go.IntKind.wrap .i64 (i + 1) = i + 1 := w64 (by omega) (by omega)
  refine ⟨?_, trivial⟩
  unfold Z5 VP
  obtain ⟨⟨x1, x2, x3⟩, hx⟩ : ∃ x, ym l i = x := ⟨_, rfl⟩
  have hx' : l.getD i.toNat yN = (x1, x2, x3) := hx
  rw [hx']
  simp only [Bool.cond_eq_ite, decide_eq_true_eq, h0, h1, if_true, hw, hx]
  cases x2 <;> rfl
 ·intro again i s hi
  unfold Z5
  simp only [Bool.cond_eq_ite, decide_eq_true_eq, if_neg hi]
def ZZ (l : List y8) (i gen : Int) : Int × Bool :=
 if inR i 0 ((l.length : Int) - 1) && ((l.getD i.toNat yN).2.1 && ((l.getD i.toNat yN).1 == gen)) then ((l.getD i.toNat yN).2.2, true) else (0, false)
theorem y0a (l : List y8) (i gen : Int) (hl : l.length ≤ 1048576) : Jt (l, i, gen) = some (ZZ l i gen) := by
 unfold Jt ZZ
 have hm : Go.IntKind.wrap .i64 ((l.length : Int) - 1) = (l.length : Int) - 1 := w64 (by omega) (by omega)
 obtain ⟨⟨x1, x2, x3⟩, hx⟩ : ∃ x, ym l i = x := ⟨_, rfl⟩
 have hx' : l.getD i.toNat yN = (x1, x2, x3) := hx
 rw [hx']
 simp only [hm, hx, Zj, Option.bind_some]
 by_cases hr : inR i 0 ((l.length : Int) - 1) = true
 ·obtain ⟨h0, h1⟩ := zo.1 hr
  rw [hr, if_pos h0, if_pos (by omega), if_pos h0, if_pos (by omega), if_pos h0, if_pos (by omega)]
  by_cases hg : x1 = gen
  ·have g1 : (x1 != gen) = false := by simp [hg]
   have g2 : (x1 == gen) = true := by simp [hg]
   rw [g1, g2]
   cases x2 <;> rfl
  ·have g1 : (x1 != gen) = true := by simpa using hg
   have g2 : (x1 == gen) = false := by simpa using hg
   rw [g1, g2]
   cases x2 <;> rfl
 ·have : inR i 0 ((l.length : Int) - 1) = false := by simpa using hr
  rw [this]
  rfl
theorem y0b (l : List y8) (i gen : Int) (hl : l.length ≤ 1048576) : JC (l, i, gen) = some (ZZ l i gen) := by
 rw [← y0a l i gen hl]
 unfold JC Jt
 simp only [Za, Zj]
end Go.Proofs.YtjllpipmaejeoaaGreat.Pl
namespace Go.Proofs.YtjllpipmaejeoaaGreat.Pl
open Go.Proofs.YtjllpipmaejeoaaGreat.R Go.Proofs.YtjllpipmaejeoaaGreat.XR
theorem yaK {A : Type} (p : A → Bool) : ∀ (l : List A) (i j : Int), 0 ≤ i → decide (0 ≤ zX p l i) = Yo (fun _ a => p a) l j
 | [], i, j, _ => rfl
 | a :: l, i, j, h => by
  rw [zX, Yo, ← yaK p l (i + 1) (j + 1) (by omega)]
  cases p a with
  | true => simp [h]
  | false => rfl
theorem y82 {A : Type} (da : A) (l : List A) (i j : Int) (h0 : 0 ≤ j) (h : j < i) : (l.take i.toNat).getD j.toNat da = l.getD j.toNat da := by
 rw [List.getD_eq_getElem?_getD, List.getD_eq_getElem?_getD, List.getElem?_take, if_pos (by omega)]
theorem yaL {A : Type} (l : List A) (i : Int) (h0 : 0 ≤ i) (h : i ≤ (l.length : Int)) : ((l.take i.toNat).length : Int) = i := by
 rw [List.length_take]
 omega
def wC (age : Int) (_ : Int) (u : yh) : Bool := u.2.1 == age
def ybW (vs : List yh) (l : List ya) (i : Int) (v : yh) : Bool :=
 !YM v.1 || (!inR v.2.2.1 1 12 || (decide (zi l v.2.1 < 0) || (decide (((Y2 l v.2.1).length : Int) > 0) || ((decide (0 < i) && !Go.Op.bytesLess (ByteArray.toList (vs.getD (i - 1).toNat yD).1) (ByteArray.toList v.1)) || Yo (wC v.2.1) (vs.take i.toNat) 0))))
def wD (vs : List yh) (l : List ya) : Bool := !Yo (ybW vs l) vs 0 && decide ((vs.length : Int) ≤ 6)
theorem y3t {R : Type} (k0 : (Bool × Int × List yb × List y0 × List ya × List y8 × List yh × Int) → Option R) (k1 : (Int × List yb × List y0 × List ya × List y8 × List yh × Int) → Option R) (i : Int) (q : List Int) (t : List y0) (l : List ya) (cs : List y8) (vs : List yh) (z : Int) (v1 : ByteArray) (v2 v3 : Int) (v4 : Bool) (h0 : 0 ≤ i) (h1 : i ≤ (vs.length : Int)) (hv : vs.length ≤ 1048576) :
  K8 k0 k1 (i, 0, q, t, l, cs, vs, z, v1, v2, v3, v4) = if Yo (wC v2) (vs.take i.toNat) 0 = true then k0 (false, i, q, t, l, cs, vs, z) else k1 (i, q, t, l, cs, vs, z) := by
 unfold K8
 have hlen := yaL vs i h0 h1
 refine zK (step := jc k0 k1) (fun k => (i, k, q, t, l, cs, vs, z, v1, v2, v3, v4)) (wC v2) _ _ yD (vs.take i.toNat) (by omega) ?_ ?_
 ·intro again k hk0 hk1
  rw [hlen] at hk1
  have hw : Go.IntKind.wrap .i64 (k + 1) = k + 1 := w64 (by omega) (by omega)
  have hk2 : k < (vs.length : Int) := by omega
  unfold jc wC
  rw [y82 yD vs i k hk0 hk1]
  have hx : vs.getD k.toNat yD = yc vs k := rfl
  rw [hx]
  simp only [Bool.cond_eq_ite, decide_eq_true_eq, hk0, hk1, hk2, if_true, hw]
 ·intro again k hk
  rw [hlen] at hk
  unfold jc
  simp only [Bool.cond_eq_ite, decide_eq_true_eq, if_neg hk]
theorem y83 (q : List Int) (t : List y0) (l : List ya) (cs : List y8) (vs : List yh) (z : Int) (hl : l.length ≤ 1048576) (hv : vs.length ≤ 1048576) (hvn : ∀ v ∈ vs, ByteArray.size v.1 ≤ maxLen) : JU (q, t, l, cs, vs, z) = some (wD vs l) := by
 unfold JU qf wD
 refine (zK (step := jd _ _) (fun i => (i, q, t, l, cs, vs, z)) (ybW vs l) (some false) (some (decide ((vs.length : Int) ≤ 6))) yD vs (by omega) ?_ ?_).trans ?_
 ·intro again i h0 h1
  have hw : Go.IntKind.wrap .i64 (i + 1) = i + 1 := w64 (by omega) (by omega)
  have hm : Go.IntKind.wrap .i64 (i - 1) = i - 1 := w64 (by omega) (by omega)
  have hmem := hvn _ (z4 yD vs i h0 h1)
  unfold jd ybW
  obtain ⟨⟨x1, x2, x3, x4⟩, hx⟩ : ∃ x, yc vs i = x := ⟨_, rfl⟩
  have hx' : vs.getD i.toNat yD = (x1, x2, x3, x4) := hx
  have hy : vs.getD (i - 1).toNat yD = yc vs (i - 1) := rfl
  rw [hx'] at hmem
  rw [hx', hy]
  have e1 := wg x1 hmem
  have e2 := Z9 l x2 (by omega)
  have e3 := kL l x2 hl
  simp only [Bool.cond_eq_ite, decide_eq_true_eq, h0, h1, if_true, hw, hm, hx, Zj, e1, e2, e3, y3t _ _ i q t l cs vs z x1 x2 x3 x4 h0 (by omega) hv, Option.bind_some, gt_iff_lt]
  cases YM x1
  ·rfl
  by_cases h5 : 0 < i
  ·have h3 : 0 ≤ i - 1 := by omega
   have h4 : i - 1 < (vs.length : Int) := by omega
   simp only [h5, h3, h4, if_true, decide_true]
   by_cases ha : zi l x2 < 0 <;> by_cases hk : (0 : Int) < ((Y2 l x2).length : Int) <;> simp only [ha, hk, if_true, if_false, decide_true, decide_false] <;> cases Go.Op.bytesLess (ByteArray.toList (yc vs (i - 1)).1) (ByteArray.toList x1) <;> cases inR x3 1 12 <;> cases Yo (wC x2) (vs.take i.toNat) 0 <;> rfl
  ·simp only [h5, if_false, decide_false]
   by_cases ha : zi l x2 < 0 <;> by_cases hk : (0 : Int) < ((Y2 l x2).length : Int) <;> simp only [ha, hk, if_true, if_false, decide_true, decide_false] <;> cases inR x3 1 12 <;> cases Yo (wC x2) (vs.take i.toNat) 0 <;> rfl
 ·intro again i hi
  unfold jd
  simp only [Bool.cond_eq_ite, decide_eq_true_eq, if_neg hi]
 ·cases Yo (ybW vs l) vs 0 <;> rfl
theorem y9H (l : List yh) (v1 : ByteArray) (v2 v3 : Int) (v4 : Bool) (hl : l.length ≤ 1048576) : yB (l, v1, v2, v3, v4) = some (Yo (wC v2) l 0, v1, v2, v3, v4) := by
 have key : yY (l, v1, v2, v3, v4) = some (zX (fun u : yh => u.2.1 == v2) l 0, v1, v2, v3, v4) := by
  unfold yY Yn
  refine (YK (step := yQ _ _) (fun i => (l, (l.length : Int), i, v1, v2, v3, v4)) (fun u : yh => u.2.1 == v2) (fun x => some (x, v1, v2, v3, v4)) (some (-1, v1, v2, v3, v4)) yD l (by omega) ?_ ?_).trans ?_
  ·intro again i h0 h1
   have hw : Go.IntKind.wrap .i64 (i + 1) = i + 1 := w64 (by omega) (by omega)
   unfold yQ Wu
   simp only [Bool.cond_eq_ite, decide_eq_true_eq, h0, h1, if_true, hw, Option.bind_some]
   rfl
  ·intro again i hi
   unfold yQ
   simp only [Bool.cond_eq_ite, decide_eq_true_eq, if_neg hi]
  ·rcases YS (fun u : yh => u.2.1 == v2) yD l 0 (Int.le_refl _) with h | ⟨h1, h2, h3⟩
   ·rw [h]
    rfl
   ·rw [if_neg (by omega)]
 unfold yB
 rw [key]
 simp only [Option.bind_some, ge_iff_le]
 rw [yaK _ l 0 0 (Int.le_refl _)]
 rfl
theorem y84 (q : List Int) (t : List y0) (l : List ya) (cs : List y8) (vs : List yh) (z : Int) (hl : l.length ≤ 1048576) (hv : vs.length ≤ 1048576) (hvn : ∀ v ∈ vs, ByteArray.size v.1 ≤ maxLen) : Wv (q, t, l, cs, vs, z) = some (wD vs l) := by
 unfold Wv Q3 wD
 refine (zK (step := J7 _ _) (fun i => (vs, (vs.length : Int), i, q, t, l, cs, vs, z)) (ybW vs l) (some false) (some (decide ((vs.length : Int) ≤ 6))) yD vs (by omega) ?_ ?_).trans ?_
 ·intro again i h0 h1
  have hw : Go.IntKind.wrap .i64 (i + 1) = i + 1 := w64 (by omega) (by omega)
  have hm : Go.IntKind.wrap .i64 (i - 1) = i - 1 := w64 (by omega) (by omega)
  have hmem := hvn _ (z4 yD vs i h0 h1)
  unfold J7 ybW
  obtain ⟨⟨x1, x2, x3, x4⟩, hx⟩ : ∃ x, yc vs i = x := ⟨_, rfl⟩
  have hx' : vs.getD i.toNat yD = (x1, x2, x3, x4) := hx
  have hy : vs.getD (i - 1).toNat yD = yc vs (i - 1) := rfl
  rw [hx'] at hmem
  rw [hx', hy]
  have e1 := y09 x1 hmem
  have e2 := Kp l x2 (by omega)
  have e3 := y4d l x2 hl
  have e4 : yB (List.drop (Int.toNat (0 : Int)) (List.take (Int.toNat i) vs), x1, x2, x3, x4) = some (Yo (wC x2) (vs.take i.toNat) 0, x1, x2, x3, x4) := y9H (vs.take i.toNat) x1 x2 x3 x4 (by simp only [List.length_take]; omega)
  have h2 : i ≤ (vs.length : Int) := by omega
  simp only [Bool.cond_eq_ite, decide_eq_true_eq, h0, h1, h2, if_true, hw, hm, hx, Za, e1, e2, e3, e4, Option.bind_some, gt_iff_lt, Int.le_refl]
  cases YM x1
  ·rfl
  by_cases h5 : 0 < i
  ·have h3 : 0 ≤ i - 1 := by omega
   have h4 : i - 1 < (vs.length : Int) := by omega
   simp only [h5, h3, h4, if_true, decide_true]
   by_cases ha : zi l x2 < 0 <;> by_cases hk : (0 : Int) < ((Y2 l x2).length : Int) <;> simp only [ha, hk, if_true, if_false, decide_true, decide_false] <;> cases Go.Op.bytesLess (ByteArray.toList (yc vs (i - 1)).1) (ByteArray.toList x1) <;> cases inR x3 1 12 <;> cases Yo (wC x2) (vs.take i.toNat) 0 <;> rfl
  ·simp only [h5, if_false, decide_false]
   by_cases ha : zi l x2 < 0 <;> by_cases hk : (0 : Int) < ((Y2 l x2).length : Int) <;> simp only [ha, hk, if_true, if_false, decide_true, decide_false] <;> cases inR x3 1 12 <;> cases Yo (wC x2) (vs.take i.toNat) 0 <;> rfl
 ·intro again i hi
  unfold J7
  simp only [Bool.cond_eq_ite, decide_eq_true_eq, if_neg hi]
 ·cases Yo (ybW vs l) vs 0 <;> rfl
end Go.Proofs.YtjllpipmaejeoaaGreat.Pl
namespace Go.Proofs.YtjllpipmaejeoaaGreat.Pl
open Go.Proofs.YtjllpipmaejeoaaGreat.R Go.Proofs.YtjllpipmaejeoaaGreat.XR
def zj (c : Int) (_ : Int) (u : y7) : Bool := (u.2.2.1 == 1) && (u.2.2.2.1 == c)
def ycg (ks : List y7) (l : List ya) (cs : List y8) (i : Int) (a : y7) : Bool :=
 decide (zi l a.2.1 < 0) || ((a.2.2.1 == 1) && (!(ZZ cs a.2.2.2.1 a.2.2.2.2).2 || Yo (zj a.2.2.2.1) (ks.take i.toNat) 0))
def Qh (n : Int) (a : y7) : Int := if (a.2.2.1 == 1) = true then Go.IntKind.wrap .i64 (n + 1) else n
def wu (ks : List y7) (l : List ya) (cs : List y8) : Bool := !Yo (ycg ks l cs) ks 0 && (ks.foldl Qh 0 == y4e cs)
theorem y3u {R : Type} (k0 : (Bool × Int × Int × List yb × List y0 × List ya × List y8 × List yh × Int × List y7) → Option R) (k1 : (Int × Int × List yb × List y0 × List ya × List y8 × List yh × Int × List y7) → Option R) (n i : Int) (q : List Int) (t : List y0) (l : List ya) (cs : List y8) (vs : List yh) (z : Int) (ks : List y7) (h0 : 0 ≤ i) (h1 : i < (ks.length : Int)) (hk : ks.length ≤ 1048576) :
  WX k0 k1 (n, i, 0, q, t, l, cs, vs, z, ks) = if Yo (zj (y6 ks i).2.2.2.1) (ks.take i.toNat) 0 = true then k0 (false, n, i, q, t, l, cs, vs, z, ks) else k1 (n, i, q, t, l, cs, vs, z, ks) := by
 unfold WX
 have hlen := yaL ks i h0 (by omega)
 refine zK (step := Zp k0 k1) (fun k => (n, i, k, q, t, l, cs, vs, z, ks)) (zj (y6 ks i).2.2.2.1) _ _ yH (ks.take i.toNat) (by omega) ?_ ?_
 ·intro again k hk0 hk1
  rw [hlen] at hk1
  have hw : Go.IntKind.wrap .i64 (k + 1) = k + 1 := w64 (by omega) (by omega)
  have hk2 : k < (ks.length : Int) := by omega
  unfold Zp zj
  rw [y82 yH ks i k hk0 hk1]
  have hx : ks.getD k.toNat yH = y6 ks k := rfl
  rw [hx]
  simp only [Bool.cond_eq_ite, decide_eq_true_eq, hk0, hk1, hk2, h0, h1, if_true, hw]
  cases ((y6 ks k).2.2.1 == 1) <;> cases ((y6 ks k).2.2.2.1 == (y6 ks i).2.2.2.1) <;> rfl
 ·intro again k hk
  rw [hlen] at hk
  unfold Zp
  simp only [Bool.cond_eq_ite, decide_eq_true_eq, if_neg hk]
theorem y3v (q : List Int) (t : List y0) (l : List ya) (cs : List y8) (vs : List yh) (z : Int) (ht : TOk t) (hl : l.length ≤ 1048576) (hc : cs.length ≤ 1048576) : JV (q, t, l, cs, vs, z) = some (wu (yu t) l cs) := by
 unfold JV qg wu
 have hk := ht.keys
 have e : yI (q, t) = some (yu t) := Yr q t (by have := ht.len; omega) ht.nodes ht.sum
 simp only [e, Option.bind_some]
 generalize yu t = ks at hk
 refine (y2I (step := jg _ _) (fun (i n : Int) => (n, i, q, t, l, cs, vs, z, ks)) (ycg ks l cs) Qh (some false) (fun n => some (n == y4e cs)) yH ks (by omega) ?_ ?_ 0).trans ?_
 ·intro again i n h0 h1
  have hw : Go.IntKind.wrap .i64 (i + 1) = i + 1 := w64 (by omega) (by omega)
  unfold jg ycg Qh
  have hin := fun (k0 : (Bool × Int × Int × List yb × List y0 × List ya × List y8 × List yh × Int × List y7) → Option Bool) k1 m => y3u k0 k1 m i q t l cs vs z ks h0 h1 hk
  obtain ⟨⟨x1, x2, x3, x4, x5⟩, hx⟩ : ∃ x, y6 ks i = x := ⟨_, rfl⟩
  have hx' : ks.getD i.toNat yH = (x1, x2, x3, x4, x5) := hx
  rw [hx']
  rw [hx] at hin
  have e1 := Z9 l x2 (by omega)
  have e2 := y0a cs x4 x5 hc
  simp only [Bool.cond_eq_ite, decide_eq_true_eq, h0, h1, if_true, hw, hx, e1, e2, hin, Option.bind_some]
  by_cases ha : zi l x2 < 0
  ·simp only [ha, if_true, decide_true, Bool.true_or]
  ·simp only [ha, if_false, decide_false, Bool.false_or]
   by_cases h3 : x3 = 1
   ·have g1 : (x3 == 1) = true := by simp [h3]
    have g2 : (x3 != 1) = false := by simp [h3]
    rw [g1, g2]
    cases (ZZ cs x4 x5).2 <;> cases Yo (zj x4) (ks.take i.toNat) 0 <;> rfl
   ·have g1 : (x3 == 1) = false := by simpa using h3
    have g2 : (x3 != 1) = true := by simpa using h3
    rw [g1, g2]
    rfl
 ·intro again i n hi
  unfold jg
  simp only [Bool.cond_eq_ite, decide_eq_true_eq, if_neg hi, y80 cs hc, Option.bind_some]
 ·cases Yo (ycg ks l cs) ks 0 <;> rfl
theorem yaM (c : Int) : ∀ (l : List y7) (i : Int) (j : Nat), j < l.length → Yo (zj c) (l.take (j + 1)) i = (Yo (zj c) (l.take j) i || zj c 0 (l.getD j yH))
 | a :: l, i, 0, _ => by simp [Yo, zj]
 | a :: l, i, j + 1, h => by
  have := yaM c l (i + 1) j (by simpa using h)
  rw [List.take_succ_cons, Yo, this, List.take_succ_cons, Yo, List.getD_cons_succ, Bool.or_assoc]
def ybX (s : Int × List Bool) (a : y7) : Int × List Bool := (Qh s.1 a, if (a.2.2.1 == 1) = true then s.2.set a.2.2.2.1.toNat true else s.2)
theorem yhn : ∀ (l : List y7) (s : Int × List Bool), (l.foldl ybX s).1 = l.foldl Qh s.1
 | [], _ => rfl
 | a :: l, s => yhn l (ybX s a)
theorem y3w (q : List Int) (t : List y0) (l : List ya) (cs : List y8) (vs : List yh) (z : Int) (ht : TOk t) (hl : l.length ≤ 1048576) (hc : cs.length = 24) : w6 (q, t, l, cs, vs, z) = some (wu (yu t) l cs) := by
 unfold w6 qk wu
 have hk := ht.keys
 have e : Yj (q, t) = some (yu t) := qn q t (by have := ht.len; omega) ht.nodes ht.sum
 rw [if_pos (by omega), if_pos (Int.le_refl _), if_pos (by omega)]
 simp only [e, Option.bind_some]
 generalize yu t = ks at hk
 refine (y3p (step := jm _ _) (fun (i : Int) (s : Int × List Bool) => (s.1, (ks.length : Int), i, q, t, l, cs, vs, z, s.2, ks)) (fun i s a => if ycg ks l cs i a = true then .error (some false) else .ok (ybX s a)) (fun s => some (s.1 == y4e cs)) yH ks (by omega) (fun j s => s.2.length = 24 ∧ ∀ c : Nat, c < 24 → s.2.getD c false = Yo (zj (c : Int)) (ks.take j) 0) ?_ ?_ 0 (Int.le_refl _) (0, List.replicate (Int.toNat 24) yd1) ⟨rfl, fun c hc => ?_⟩).trans ?_
 ·rintro again i ⟨n, tk⟩ h0 h1 ⟨hI1, hI2⟩
  simp only at hI1 hI2
  have hw : Go.IntKind.wrap .i64 (i + 1) = i + 1 := w64 (by omega) (by omega)
  obtain ⟨⟨x1, x2, x3, x4, x5⟩, hx⟩ : ∃ x, y6 ks i = x := ⟨_, rfl⟩
  have hx' : ks.getD i.toNat yH = (x1, x2, x3, x4, x5) := hx
  have hgd : ks.getD i.toNat yH = ks.getD i.toNat yH := rfl
  have e1 := Kp l x2 (by omega)
  have e2 := y0b cs x4 x5 (by omega)
  have hcell : (ZZ cs x4 x5).2 = true → 0 ≤ x4 ∧ x4 < 24 := fun h => by
   unfold ZZ at h
   split at h
   ·rename_i hh
    simp only [Bool.and_eq_true] at hh
    have := zo.1 hh.1
    omega
   ·cases h
  rw [hx']
  refine ⟨?_, fun s' hs' => ?_⟩
  ·unfold jm ycg ybX Qh
   simp only [Bool.cond_eq_ite, decide_eq_true_eq, h0, h1, if_true, hw, hx, e1, e2, Option.bind_some]
   by_cases ha : zi l x2 < 0
   ·simp only [ha, if_true, decide_true, Bool.true_or]
   ·simp only [ha, if_false, decide_false, Bool.false_or]
    by_cases h3 : x3 = 1
    ·have g1 : (x3 == 1) = true := by simp [h3]
     have g2 : (x3 != 1) = false := by simp [h3]
     rw [g1, g2]
     cases hok : (ZZ cs x4 x5).2 with
     | false => rfl
     | true =>
      obtain ⟨b0, b1⟩ := hcell hok
      have b2 : x4 < (tk.length : Int) := by omega
      have hrd : yd2 tk x4 = Yo (zj x4) (ks.take i.toNat) 0 := by
       have := hI2 x4.toNat (by omega)
       rw [show ((x4.toNat : Nat) : Int) = x4 by omega] at this
       exact this
      simp only [b0, b2, if_true, hrd]
      cases Yo (zj x4) (ks.take i.toNat) 0 <;> rfl
    ·have g1 : (x3 == 1) = false := by simpa using h3
     have g2 : (x3 != 1) = true := by simpa using h3
     rw [g1, g2]
     rfl
  ·by_cases hb : ycg ks l cs i (x1, x2, x3, x4, x5) = true
   ·rw [if_pos hb] at hs'
    cases hs'
   ·rw [if_neg hb] at hs'
    injection hs' with hs'
    subst hs'
    have hsucc : ∀ c : Int, Yo (zj c) (ks.take (i.toNat + 1)) 0 = (Yo (zj c) (ks.take i.toNat) 0 || zj c 0 (x1, x2, x3, x4, x5)) := fun c => by
     rw [yaM c ks 0 i.toNat (by omega), hx']
    unfold ybX
    simp only
    by_cases h3 : x3 = 1
    ·have g1 : (x3 == 1) = true := by simp [h3]
     simp only [g1, if_true]
     have hok : (ZZ cs x4 x5).2 = true := by
      unfold ycg at hb
      simp only [g1] at hb
      cases hh : (ZZ cs x4 x5).2 with
      | true => rfl
      | false =>
       rw [hh] at hb
       simp at hb
     obtain ⟨b0, b1⟩ := hcell hok
     refine ⟨by simpa using hI1, fun c hc => ?_⟩
     rw [hsucc, ← hI2 c hc]
     unfold zj
     simp only [g1, Bool.true_and]
     rw [List.getD_eq_getElem?_getD, List.getD_eq_getElem?_getD]
     by_cases hcx : c = x4.toNat
     ·rw [← hcx, List.getElem?_set_self (by omega)]
      have : (x4 == (c : Int)) = true := by
       simp only [beq_iff_eq]
       omega
      rw [this]
      simp
     ·rw [List.getElem?_set_ne (fun h => hcx h.symm)]
      have : (x4 == (c : Int)) = false := by
       simp only [beq_eq_false_iff_ne, ne_eq]
       omega
      rw [this]
      simp
    ·have g1 : (x3 == 1) = false := by simpa using h3
     simp only [g1, Bool.false_eq_true, if_false]
     refine ⟨hI1, fun c hc => ?_⟩
     rw [hsucc, ← hI2 c hc]
     unfold zj
     simp only [g1, Bool.false_and, Bool.or_false]
 ·rintro again i ⟨n, tk⟩ hi
  unfold jm
  simp only [Bool.cond_eq_ite, decide_eq_true_eq, if_neg hi, y81 cs (by omega), Option.bind_some]
  rw [Bool.beq_comm]
 ·show (List.replicate 24 false).getD c false = _
  rw [List.getD_eq_getElem?_getD, List.getElem?_replicate]
  simp [Yo, hc]
 ·have := y2H (ycg ks l cs) ybX (some false) (fun s : Int × List Bool => some (s.1 == y4e cs)) ks 0 (0, List.replicate (Int.toNat 24) yd1)
  rw [show (0 : Int).toNat = 0 from rfl, List.drop_zero, this, yhn]
  cases Yo (ycg ks l cs) ks 0 <;> rfl
def Qi (z : Int) (_ : Int) (a : ya) : Bool := decide (a.1 ≥ z)
def yr (q : List Int) (t : List y0) (l : List ya) (cs : List y8) (vs : List yh) (z : Int) : Bool :=
 zp q t && (jA l && (zr cs && (inR z 1 61 && (!Yo (Qi z) l 0 && (wD vs l && wu (yu t) l cs)))))
theorem y0c (q : List Int) (t : List y0) (l : List ya) (cs : List y8) (vs : List yh) (z : Int) (ht : TOk t) (hl : l.length ≤ 1048576) (hc : cs.length ≤ 1048576) (hv : vs.length ≤ 1048576) (hvn : ∀ v ∈ vs, ByteArray.size v.1 ≤ maxLen) : yG (q, t, l, cs, vs, z) = some (yr q t l cs vs z) := by
 unfold yG qL yr
 refine (zK (step := jR _ _) (fun i => (i, q, t, l, cs, vs, z)) (Qi z) (some false) (some (zp q t && (jA l && (zr cs && (inR z 1 61 && (wD vs l && wu (yu t) l cs)))))) zq l (by omega) ?_ ?_).trans ?_
 ·intro again i h0 h1
  have hw : Go.IntKind.wrap .i64 (i + 1) = i + 1 := w64 (by omega) (by omega)
  unfold jR Qi
  have hx : l.getD i.toNat zq = yK l i := rfl
  rw [hx]
  simp only [Bool.cond_eq_ite, decide_eq_true_eq, h0, h1, if_true, hw]
 ·intro again i hi
  unfold jR
  simp only [Bool.cond_eq_ite, decide_eq_true_eq, if_neg hi, V1 q t ht, kK l hl, Ji cs hc, Zj, y83 q t l cs vs z hl hv hvn, y3v q t l cs vs z ht hl hc, Option.bind_some]
  cases zp q t <;> cases jA l <;> cases zr cs <;> cases inR z 1 61 <;> cases wD vs l <;> rfl
 ·cases Yo (Qi z) l 0 <;> cases zp q t <;> cases jA l <;> cases zr cs <;> cases inR z 1 61 <;> rfl
theorem y4f (q : List Int) (t : List y0) (l : List ya) (cs : List y8) (vs : List yh) (z : Int) (ht : TOk t) (hl : l.length ≤ 1048576) (hc : cs.length ≤ 1048576) (hv : vs.length ≤ 1048576) (hvn : ∀ v ∈ vs, ByteArray.size v.1 ≤ maxLen) : ZV (q, t, l, cs, vs, z) = some (yr q t l cs vs z) := by
 unfold ZV yr
 simp only [V2 q t ht, y4c l hl, vj cs hc, Za, Option.bind_some]
 cases zp q t
 ·rfl
 cases jA l
 ·rfl
 cases hcc : zr cs
 ·rfl
 cases inR z 1 61
 ·rfl
 have hc24 : cs.length = 24 := by
  unfold zr at hcc
  simp only [Bool.and_eq_true, beq_iff_eq] at hcc
  omega
 simp only [Bool.not_true, cond_false, Option.bind_some, Bool.true_and]
 unfold Q4
 refine (zK (step := J8 _ _) (fun i => (l, (l.length : Int), i, q, t, l, cs, vs, z)) (Qi z) (some false) (some (wD vs l && wu (yu t) l cs)) zq l (by omega) ?_ ?_).trans ?_
 ·intro again i h0 h1
  have hw : Go.IntKind.wrap .i64 (i + 1) = i + 1 := w64 (by omega) (by omega)
  unfold J8 Qi
  have hx : l.getD i.toNat zq = yK l i := rfl
  rw [hx]
  simp only [Bool.cond_eq_ite, decide_eq_true_eq, h0, h1, if_true, hw]
 ·intro again i hi
  unfold J8
  simp only [Bool.cond_eq_ite, decide_eq_true_eq, if_neg hi, y84 q t l cs vs z hl hv hvn, y3w q t l cs vs z ht hl hc24, Option.bind_some]
  cases wD vs l <;> rfl
 ·cases Yo (Qi z) l 0 <;> rfl
end Go.Proofs.YtjllpipmaejeoaaGreat.Pl
namespace Go.Proofs.YtjllpipmaejeoaaGreat.Pl
open Go.Proofs.YtjllpipmaejeoaaGreat.R Go.Proofs.YtjllpipmaejeoaaGreat.XR
theorem Kd {A : Type} (p : Int → A → Bool) : ∀ (l : List A) (i : Int), Yo p l i = false → ∀ a ∈ l, ∃ j, p j a = false
 | [], _, _, a, h => by simp at h
 | b :: l, i, h, a, ha => by
  simp only [Yo, Bool.or_eq_false_iff] at h
  rcases List.mem_cons.1 ha with rfl | ha
  ·exact ⟨i, h.1⟩
  ·exact Kd p l (i + 1) h.2 a ha
theorem y2J {s : List y7} (h : wQ s = true) : s.length ≤ 60 ∧ ∀ k ∈ s, Ym k = true := by
 unfold wQ at h
 simp only [Bool.and_eq_true, Bool.not_eq_true', decide_eq_true_eq] at h
 refine ⟨by omega, fun k hk => ?_⟩
 obtain ⟨j, hj⟩ := Kd _ s 0 h.1 k hk
 simpa using hj
theorem y13 {n : List y9} (h : Ys n = true) : n.length ≤ 3 ∧ ∀ s ∈ n, wQ s = true := by
 unfold Ys at h
 simp only [Bool.and_eq_true, Bool.not_eq_true', decide_eq_true_eq] at h
 refine ⟨by omega, fun s hs => ?_⟩
 obtain ⟨j, hj⟩ := Kd _ n 0 h.1 s hs
 unfold y12 at hj
 simp only [Bool.or_eq_false_iff, Bool.not_eq_false'] at hj
 exact hj.1
theorem Jj {q : List Int} {t : List y0} (h : zp q t = true) : q.length = t.length ∧ 1 ≤ t.length ∧ t.length ≤ 20 ∧ ∀ n ∈ t, Ys n = true := by
 unfold zp at h
 simp only [Bool.and_eq_true, Bool.not_eq_true', decide_eq_true_eq, zo] at h
 obtain ⟨h1, h2, _, h3, _⟩ := h
 refine ⟨h2, by omega, by omega, fun n hn => ?_⟩
 obtain ⟨j, hj⟩ := Kd _ t 0 h3 n hn
 unfold V0 at hj
 simp only [Bool.or_eq_false_iff, Bool.not_eq_false'] at hj
 have h4 := hj.2
 unfold y4a at h4
 simp only [Bool.and_eq_true] at h4
 exact h4.1
end Go.Proofs.YtjllpipmaejeoaaGreat.Pl
namespace Go.Proofs.YtjllpipmaejeoaaGreat.Pl
open Go.Proofs.YtjllpipmaejeoaaGreat.R Go.Proofs.YtjllpipmaejeoaaGreat.XR
theorem vk {a b : y7} : wA a b = true ↔ a.1 < b.1 ∨ a.1 = b.1 ∧ a.2.1 < b.2.1 := by
 unfold wA
 by_cases h1 : a.1 < b.1
 ·simp [h1]
 ·by_cases h2 : a.1 = b.1 <;> simp [h1, h2]
theorem Yx {a b : y7} : ZY a b = true ↔ a.1 = b.1 ∧ a.2.1 = b.2.1 := by simp [ZY]
theorem y0r {a b c : y7} (h1 : wA a b = true) (h2 : wA b c = true) : wA a c = true := by
 rw [vk] at *
 omega
def srt (l : List y7) : Prop := l.Pairwise fun a b => wA a b = true
def y73 : List y7 → y7 → List y7
 | [], k => [k]
 | c :: r, k => if wA c k = true then c :: y73 r k else k :: (c :: r).filter fun x => !ZY x k
theorem yaN (k : y7) : ∀ (l o : List y7), l.foldl (jz k) (true, o) = (true, o ++ l.filter fun x => !ZY x k)
 | [], o => by simp
 | c :: l, o => by
  rw [List.foldl_cons, List.filter_cons]
  have e : jz k (true, o) c = (true, if ZY c k then o else o ++ [c]) := by simp [jz]
  rw [e, yaN k l]
  cases ZY c k <;> simp
def yjU (k : y7) (r : Bool × List y7) : List y7 := if r.1 then r.2 else r.2 ++ [k]
theorem y85 (k : y7) : ∀ (l o : List y7), yjU k (l.foldl (jz k) (false, o)) = o ++ y73 l k
 | [], o => by simp [y73, yjU]
 | c :: l, o => by
  rw [List.foldl_cons, y73]
  cases hl : wA c k with
  | true =>
   have hs : ZY c k = false := by
    cases hs : ZY c k with
    | false => rfl
    | true =>
     rw [vk] at hl
     rw [Yx] at hs
     omega
   have e : jz k (false, o) c = (false, o ++ [c]) := by simp [jz, hl, hs]
   rw [e, y85 k l (o ++ [c])]
   simp
  | false =>
   have e : jz k (false, o) c = (true, if ZY c k then o ++ [k] else o ++ [k] ++ [c]) := by simp [jz, hl]
   rw [e, yaN]
   simp only [yjU, if_true, List.filter_cons, Bool.false_eq_true, if_false]
   cases ZY c k <;> simp
theorem kv (l : List y7) (k : y7) : Yb l k = y73 l k := by
 exact (y85 k l []).trans (List.nil_append _)
theorem y6P {k : y7} : ∀ {l : List y7} {x : y7}, x ∈ y73 l k → x = k ∨ x ∈ l
 | [], x, h => by simpa [y73] using h
 | c :: r, x, h => by
  rw [y73] at h
  split at h
  ·rcases List.mem_cons.1 h with rfl | h
   ·exact .inr (by simp)
   ·rcases y6P h with h | h
    ·exact .inl h
    ·exact .inr (by simp [h])
  ·rcases List.mem_cons.1 h with rfl | h
   ·exact .inl rfl
   ·exact .inr (List.mem_filter.1 h).1
theorem yaO (k : y7) : ∀ (l : List y7), srt l → srt (y73 l k)
 | [], _ => by simp [srt, y73]
 | c :: r, h => by
  obtain ⟨h1, h2⟩ := List.pairwise_cons.1 h
  rw [y73]
  split
  ·rename_i hl
   refine List.pairwise_cons.2 ⟨fun y hy => ?_, yaO k r h2⟩
   rcases y6P hy with rfl | hy
   ·exact hl
   ·exact h1 y hy
  ·rename_i hl
   refine List.pairwise_cons.2 ⟨fun y hy => ?_, List.Pairwise.filter _ h⟩
   obtain ⟨hy, hs⟩ := List.mem_filter.1 hy
   have hs' : ¬ (y.1 = k.1 ∧ y.2.1 = k.2.1) := fun e => by
    rw [Yx.2 e] at hs
    cases hs
   rw [vk] at hl ⊢
   rcases List.mem_cons.1 hy with rfl | hy
   ·omega
   ·have := vk.1 (h1 y hy)
    omega
theorem wR {l : List y7} (k : y7) (h : srt l) : srt (Yb l k) := by rw [kv]; exact yaO k l h
theorem y4X {l : List y7} {k x : y7} (h : x ∈ Yb l k) : x = k ∨ x ∈ l := by rw [kv] at h; exact y6P h
theorem Vv : ∀ (b a : List y7), srt a → srt (YJ a b)
 | [], _, h => h
 | c :: b, a, h => Vv b _ (wR c h)
theorem y4Y : ∀ (b a : List y7) {x : y7}, x ∈ YJ a b → x ∈ a ∨ x ∈ b
 | [], _, _, h => .inl h
 | c :: b, a, x, h => by
  rcases y4Y b (Yb a c) h with h | h
  ·rcases y4X h with rfl | h
   ·exact .inr (by simp)
   ·exact .inl h
  ·exact .inr (by simp [h])
theorem yaP : ∀ (l s : List y7), l.foldl vh s = s ++ l.filter fun c => !decide (c.2.2.1 = 0)
 | [], s => by simp
 | c :: l, s => by
  rw [List.foldl_cons, yaP l, List.filter_cons]
  unfold vh
  by_cases h : c.2.2.1 = 0 <;> simp [h]
theorem VQ (l : List y7) : kt l = l.filter fun c => !decide (c.2.2.1 = 0) := by
 have := yaP l []
 simpa [kt] using this
theorem vm {l : List y7} (h : srt l) : srt (kt l) := by rw [VQ]; exact List.Pairwise.filter _ h
theorem y86 {l : List y7} {x : y7} (h : x ∈ kt l) : x ∈ l := by rw [VQ] at h; exact (List.mem_filter.1 h).1
theorem y3x : ∀ (n : List y9) (s : List y7), srt s → srt (n.foldl YJ s)
 | [], _, h => h
 | c :: n, s, h => y3x n _ (Vv c s h)
theorem y87 : ∀ (n : List y9) (s : List y7) {x : y7}, x ∈ n.foldl YJ s → x ∈ s ∨ ∃ c ∈ n, x ∈ (show List y7 from c)
 | [], _, _, h => .inl h
 | c :: n, s, x, h => by
  rcases y87 n (YJ s c) h with h | ⟨d, hd, hx⟩
  ·rcases y4Y c s h with h | h
   ·exact .inl h
   ·exact .inr ⟨c, by simp, h⟩
  ·exact .inr ⟨d, by simp [hd], hx⟩
theorem Vw (n : List y9) : srt (yF n) := vm (y3x n [] List.Pairwise.nil)
theorem y14 {n : List y9} {x : y7} (h : x ∈ yF n) : ∃ c ∈ n, x ∈ (show List y7 from c) := by
 rcases y87 n [] (y86 h) with h | h
 ·cases h
 ·exact h
theorem Vx {A : Type} {p : Int → A → Bool} (da : A) : ∀ (l : List A) (i : Int), (∀ j : Nat, j < l.length → p (i + j) (l.getD j da) = false) → Yo p l i = false
 | [], _, _ => rfl
 | a :: l, i, h => by
  rw [Yo, Bool.or_eq_false_iff]
  refine ⟨by simpa using h 0 (by simp), Vx da l (i + 1) fun j hj => ?_⟩
  have := h (j + 1) (by simpa using hj)
  rw [List.getD_cons_succ] at this
  rw [show i + 1 + (j : Int) = i + ((j + 1 : Nat) : Int) by omega]
  exact this
theorem zZ {A : Type} (da : A) (l : List A) (j : Nat) (h : j < l.length) : l.getD j da = l[j] := by simp [List.getD, h]
theorem ydF {l : List y7} (h : srt l) : Yo (JM l) l 0 = false := by
 refine Vx yH l 0 fun j hj => ?_
 unfold JM
 cases j with
 | zero => simp
 | succ j =>
  have h2 := List.pairwise_iff_getElem.1 h j (j + 1) (by omega) hj (by omega)
  rw [show ((0 : Int) + ((j + 1 : Nat) : Int) - 1).toNat = j by omega, zZ _ _ _ (by omega), zZ _ _ _ hj, h2]
  simp
theorem yq4 {l : List y7} (h : srt l) (hk : ∀ k ∈ l, Ym k = true) (hl : l.length ≤ 60) : wQ l = true := by
 unfold wQ
 rw [ydF h, Vx yH l 0 fun j hj => by
  rw [zZ _ _ _ hj, hk _ (List.getElem_mem hj)]
  rfl]
 simp
 omega
def yR (l : List y7) : List y9 := if l.length = 0 then [] else [l]
theorem y4Z {l : List y7} (h : srt l) (hk : ∀ k ∈ l, Ym k = true) (hl : l.length ≤ 8) : Ys (yR l) = true := by
 unfold yR
 split
 ·rfl
 ·rename_i h0
  have h1 := yq4 h hk (by omega)
  have h2 : y08 0 l = (List.length l : Int) := by
   unfold y08
   rw [w64 (by omega) (by omega)]
   omega
  unfold Ys
  simp only [Yo, y12, h1, Bool.not_true, Bool.false_or, Bool.or_false, List.foldl_cons, List.foldl_nil, h2, List.length_cons, List.length_nil]
  rw [show (((List.length l : Nat) : Int) == 0) = false from beq_eq_false_iff_ne.2 (by omega)]
  simp
  omega
end Go.Proofs.YtjllpipmaejeoaaGreat.Pl
namespace Go.Proofs.YtjllpipmaejeoaaGreat.Pl
open Go.Proofs.YtjllpipmaejeoaaGreat.R Go.Proofs.YtjllpipmaejeoaaGreat.XR
theorem y2K {T A R : Type} {step : (T → Option R) → T → Option R} (da : A) (l : List A) (St0 : Int → T) (St1 : Int → List A → T) (k0 : Option R) (k1 : List A → Option R) (hl : l.length ≤ 1099511627776)
  (h0 : ∀ again i, 0 ≤ i → i < ((List.length l : Nat) : Int) → step again (St0 i) = again (St1 (i + 1) [l.getD i.toNat da]))
  (h1 : ∀ again i o, 0 ≤ i → i < ((List.length l : Nat) : Int) → List.length o ≤ List.length l → step again (St1 i o) = again (St1 (i + 1) (o ++ [l.getD i.toNat da])))
  (hd0 : ∀ again i, ¬ i < ((List.length l : Nat) : Int) → step again (St0 i) = k0)
  (hd1 : ∀ again i o, ¬ i < ((List.length l : Nat) : Int) → step again (St1 i o) = k1 o) : zL step Y3 (St0 0) = if l.length = 0 then k0 else k1 l := by
 have key : ∀ (m : Nat) (i : Int), 0 ≤ i → i ≤ l.length → l.length - i.toNat < m → zL step m (St1 i (l.take i.toNat)) = k1 l := by
  intro m
  induction m with
  | zero => intro i _ _ h; omega
  | succ m ih =>
   intro i i0 i1 hm
   rw [zL]
   by_cases hi : i < ((List.length l : Nat) : Int)
   ·have e1 : (i + 1).toNat = i.toNat + 1 := by omega
    have e2 : l.take i.toNat ++ [l.getD i.toNat da] = l.take (i + 1).toNat := by
     rw [e1, List.take_succ_eq_append_getElem (by omega), y6I da l i i0 hi]
    rw [h1 _ i _ i0 hi (by rw [List.length_take]; omega), e2]
    exact ih (i + 1) (by omega) (by omega) (by omega)
   ·rw [hd1 _ i _ hi, List.take_of_length_le (by omega)]
 have hF : Y3 = (Y3 - 1) + 1 := by
  have := y0m
  omega
 rw [hF, zL]
 by_cases h : l.length = 0
 ·rw [if_pos h, hd0 _ 0 (by omega)]
 ·rw [if_neg h, h0 _ 0 (Int.le_refl _) (by omega)]
  have e : [l.getD (0 : Int).toNat da] = l.take (0 + 1 : Int).toNat := by
   cases l with
   | nil => simp at h
   | cons a l => rfl
  rw [e]
  exact key _ _ (by omega) (by omega) (by
   have := y0m
   omega)
theorem yqI {A : Type} (a : A) (k : Nat) (h : k < 140737488355328) : List.length [a] * k < 140737488355328 := by
 simp only [List.length_cons, List.length_nil]
 omega
end Go.Proofs.YtjllpipmaejeoaaGreat.Pl
namespace Go.Proofs.YtjllpipmaejeoaaGreat.Pl
open Go.Proofs.YtjllpipmaejeoaaGreat.R Go.Proofs.YtjllpipmaejeoaaGreat.XR
def y2i (n : y0) : Prop := List.length n ≤ 1048576 ∧ ∀ b ∈ (show List y9 from n), List.length b ≤ 1048576
theorem V3 (n : List y9) (h : y2i n) : za n = some n := by
 have h1 : n.length ≤ 1048576 := h.1
 have e : za n = if n.length = 0 then some ([] : List y9) else some n := by
  unfold za qM
  refine y2K (step := YF _ _) yT n (fun i => Sum.inl (i, n)) (fun i o => Sum.inr (i, n, o)) _ (fun o => some o) (by omega) ?_ ?_ ?_ ?_
  ·intro again i i0 i1
   have hw : Go.IntKind.wrap .i64 (i + 1) = i + 1 := w64 (by omega) (by omega)
   have hr : List.length (yl n i) ≤ 1048576 := h.2 _ (z4 yT n i i0 i1)
   simp only [YF, Bool.cond_eq_ite, decide_eq_true_eq, i0, i1, if_true, hw]
   rw [if_pos (by simp only [List.length_nil]; omega), if_pos (yqI _ _ (by decide))]
   rfl
  ·intro again i o i0 i1 i2
   have hw : Go.IntKind.wrap .i64 (i + 1) = i + 1 := w64 (by omega) (by omega)
   have hr : List.length (yl n i) ≤ 1048576 := h.2 _ (z4 yT n i i0 i1)
   simp only [YF, Bool.cond_eq_ite, decide_eq_true_eq, i0, i1, if_true, hw]
   rw [if_pos (by simp only [List.length_nil]; omega), if_pos (by simp only [List.length_cons, List.length_nil]; omega)]
   rfl
  ·intro again i hi
   simp only [YF, Bool.cond_eq_ite, decide_eq_true_eq, if_neg hi]
  ·intro again i o hi
   simp only [YF, Bool.cond_eq_ite, decide_eq_true_eq, if_neg hi]
 rw [e]
 split
 ·rename_i h0
  rw [List.length_eq_zero_iff.1 h0]
 ·rfl
theorem Ke (l : List y7) (h : l.length ≤ 1048576) : zU l = some l := by
 unfold zU
 rw [if_pos (by simp only [List.length_nil]; omega)]
 rfl
theorem Kf (n : List y9) (h : y2i n) : zu n = some n := by
 have h1 : n.length ≤ 1048576 := h.1
 have e : zu n = if n.length = 0 then some ([] : List y9) else some n := by
  unfold zu Vm
  refine y2K (step := Y8 _ _) yT n (fun i => Sum.inl (n, ((List.length n : Nat) : Int), i)) (fun i o => Sum.inr (n, ((List.length n : Nat) : Int), i, o)) _ (fun o => some o) (by omega) ?_ ?_ ?_ ?_
  ·intro again i i0 i1
   have hw : Go.IntKind.wrap .i64 (i + 1) = i + 1 := w64 (by omega) (by omega)
   have hr : List.length (yl n i) ≤ 1048576 := h.2 _ (z4 yT n i i0 i1)
   simp only [Y8, Bool.cond_eq_ite, decide_eq_true_eq, i0, i1, if_true, hw, Ke _ hr, Option.bind_some]
   rw [if_pos (yqI _ _ (by decide))]
   rfl
  ·intro again i o i0 i1 i2
   have hw : Go.IntKind.wrap .i64 (i + 1) = i + 1 := w64 (by omega) (by omega)
   have hr : List.length (yl n i) ≤ 1048576 := h.2 _ (z4 yT n i i0 i1)
   simp only [Y8, Bool.cond_eq_ite, decide_eq_true_eq, i0, i1, if_true, hw, Ke _ hr, Option.bind_some]
   rw [if_pos (by simp only [List.length_cons, List.length_nil]; omega)]
   rfl
  ·intro again i hi
   simp only [Y8, Bool.cond_eq_ite, decide_eq_true_eq, if_neg hi]
  ·intro again i o hi
   simp only [Y8, Bool.cond_eq_ite, decide_eq_true_eq, if_neg hi]
 rw [e]
 split
 ·rename_i h0
  rw [List.length_eq_zero_iff.1 h0]
 ·rfl
theorem V4 (q : List yb) (t : List y0) (hq : q.length ≤ 1048576) (ht : t.length ≤ 1048576) (hn : ∀ n ∈ t, y2i n) : YX (q, t) = some (q, t) := by
 have e : YX (q, t) = if t.length = 0 then some (q, ([] : List y0)) else some (q, t) := by
  unfold YX qN
  simp only [List.length_nil, List.nil_append]
  rw [if_pos (by omega)]
  refine y2K (step := YG _ _) yi t (fun i => Sum.inl (i, q, t, q)) (fun i o => Sum.inr (i, q, t, q, o)) _ (fun o => some (q, o)) (by omega) ?_ ?_ ?_ ?_
  ·intro again i i0 i1
   have hw : Go.IntKind.wrap .i64 (i + 1) = i + 1 := w64 (by omega) (by omega)
   have hr : y2i (yd t i) := hn _ (z4 yi t i i0 i1)
   simp only [YG, Bool.cond_eq_ite, decide_eq_true_eq, i0, i1, if_true, hw, V3 _ hr, Option.bind_some]
   rw [if_pos (yqI _ _ (by decide))]
   rfl
  ·intro again i o i0 i1 i2
   have hw : Go.IntKind.wrap .i64 (i + 1) = i + 1 := w64 (by omega) (by omega)
   have hr : y2i (yd t i) := hn _ (z4 yi t i i0 i1)
   simp only [YG, Bool.cond_eq_ite, decide_eq_true_eq, i0, i1, if_true, hw, V3 _ hr, Option.bind_some]
   rw [if_pos (by simp only [List.length_cons, List.length_nil]; omega)]
   rfl
  ·intro again i hi
   simp only [YG, Bool.cond_eq_ite, decide_eq_true_eq, if_neg hi]
  ·intro again i o hi
   simp only [YG, Bool.cond_eq_ite, decide_eq_true_eq, if_neg hi]
 rw [e]
 split
 ·rename_i h0
  rw [List.length_eq_zero_iff.1 h0]
 ·rfl
theorem qo (l : List yb) (h : l.length ≤ 1048576) : Zy l = some l := by
 unfold Zy
 rw [if_pos (by simp only [List.length_nil]; omega)]
 rfl
theorem qp (q : List yb) (t : List y0) (hq : q.length ≤ 1048576) (ht : t.length ≤ 1048576) (hn : ∀ n ∈ t, y2i n) : zv (q, t) = some (q, t) := by
 have e : zv (q, t) = if t.length = 0 then some (q, ([] : List y0)) else some (q, t) := by
  unfold zv Vn
  simp only [qo q hq, Option.bind_some]
  refine y2K (step := Y9 _ _) yi t (fun i => Sum.inl (t, ((List.length t : Nat) : Int), i, q)) (fun i o => Sum.inr (t, ((List.length t : Nat) : Int), i, q, o)) _ (fun o => some (q, o)) (by omega) ?_ ?_ ?_ ?_
  ·intro again i i0 i1
   have hw : Go.IntKind.wrap .i64 (i + 1) = i + 1 := w64 (by omega) (by omega)
   have hr : y2i (yd t i) := hn _ (z4 yi t i i0 i1)
   simp only [Y9, Bool.cond_eq_ite, decide_eq_true_eq, i0, i1, if_true, hw, Kf _ hr, Option.bind_some]
   rw [if_pos (yqI _ _ (by decide))]
   rfl
  ·intro again i o i0 i1 i2
   have hw : Go.IntKind.wrap .i64 (i + 1) = i + 1 := w64 (by omega) (by omega)
   have hr : y2i (yd t i) := hn _ (z4 yi t i i0 i1)
   simp only [Y9, Bool.cond_eq_ite, decide_eq_true_eq, i0, i1, if_true, hw, Kf _ hr, Option.bind_some]
   rw [if_pos (by simp only [List.length_cons, List.length_nil]; omega)]
   rfl
  ·intro again i hi
   simp only [Y9, Bool.cond_eq_ite, decide_eq_true_eq, if_neg hi]
  ·intro again i o hi
   simp only [Y9, Bool.cond_eq_ite, decide_eq_true_eq, if_neg hi]
 rw [e]
 split
 ·rename_i h0
  rw [List.length_eq_zero_iff.1 h0]
 ·rfl
theorem WJ (q : List yb) (t : List y0) (l : List ya) (cs : List y8) (vs : List yh) (z : Int) (h : small q t l cs vs) : yk (q, t, l, cs, vs, z) = some (q, t, l, cs, vs, z) := by
 obtain ⟨h1, h2, h3, h4, h5, h6⟩ := h
 unfold yk zS
 simp only [V4 q t h1 h2 (fun n hn => Kr h3 hn), Option.bind_some, List.length_nil, List.nil_append]
 rw [if_pos (by omega), if_pos (by omega)]
 simp only [Option.bind_some]
 rw [if_pos (by omega)]
theorem qq (q : List yb) (t : List y0) (l : List ya) (cs : List y8) (vs : List yh) (z : Int) (h : small q t l cs vs) : z3 (q, t, l, cs, vs, z) = some (q, t, l, cs, vs, z) := by
 obtain ⟨h1, h2, h3, h4, h5, h6⟩ := h
 unfold z3 WA zw
 simp only [qp q t h1 h2 (fun n hn => Kr h3 hn), Option.bind_some, List.length_nil, List.nil_append]
 rw [if_pos (by omega)]
 simp only [Option.bind_some]
 rw [if_pos (by omega)]
 simp only [Option.bind_some]
 rw [if_pos (by omega)]
end Go.Proofs.YtjllpipmaejeoaaGreat.Pl
namespace Go.Proofs.YtjllpipmaejeoaaGreat.Pl
open Go.Proofs.YtjllpipmaejeoaaGreat.R Go.Proofs.YtjllpipmaejeoaaGreat.XR
def jE (t : List y0) (l : List ya) (blk id : Int) : Bool × y7 := zO (zM (yu t) blk) ((Yl l id).drop 1)
theorem y9I (ks : List y7) : zO ks [] = (false, (0, 0, 0, 0, 0)) := by
 unfold zO
 induction ks with
 | nil => rfl
 | cons a ks ih =>
  rw [List.foldl_cons, show wB [] (false, ((0 : Int), (0 : Int), (0 : Int), (0 : Int), (0 : Int))) a = (false, (0, 0, 0, 0, 0)) by
   unfold wB yeg zX
   simp]
  exact ih
theorem y15 (q : List Int) (t : List y0) (l : List ya) (blk id : Int) (ht : TOk t) (hl : l.length ≤ 1048576) : YP (q, t, l, blk, id) = some (ans (jE t l blk id)) := by
 unfold YP jE
 have hp := QG l id hl
 simp only [y05 l id hl, Option.bind_some]
 generalize Yl l id = p at hp
 cases p with
 | nil =>
  rw [show List.drop 1 ([] : List Int) = [] from rfl, y9I]
  rfl
 | cons a p =>
  have h1 : (((a :: p).length : Int) == 0) = false := by
   simp only [List.length_cons, beq_eq_false_iff_ne, ne_eq]
   omega
  have h2 : (1 : Int) ≤ ((a :: p).length : Int) := by
   simp only [List.length_cons]
   omega
  have e : ZS (q, t, blk, List.drop (Int.toNat (1 : Int)) (List.take (Int.toNat ((a :: p).length : Int)) (a :: p))) = some (ans (zO (zM (yu t) blk) (List.drop 1 (a :: p)))) := by
   rw [show Int.toNat ((a :: p).length : Int) = (a :: p).length by omega, List.take_length]
   exact y22 q t blk _ ht (by simp only [List.length_drop]; omega)
  simp only [h1, cond_false, h2, Int.le_refl, if_true, e, Option.bind_some]
  rw [if_pos (by omega)]
theorem y6Q (q : List Int) (t : List y0) (l : List ya) (blk id : Int) (ht : TOk t) (hl : l.length ≤ 1048576) : jo (q, t, l, blk, id) = some (ans (jE t l blk id)) := by
 unfold jo jE
 have hp := QG l id hl
 simp only [y06 l id hl, Option.bind_some]
 generalize Yl l id = p at hp
 have e : ZW (q, t, blk, List.drop (Int.toNat (if (p.length : Int) < (1 : Int) then (p.length : Int) else (1 : Int))) (List.take (Int.toNat (p.length : Int)) p)) = some (ans (zO (zM (yu t) blk) (List.drop 1 p))) := by
  rw [show Int.toNat (p.length : Int) = p.length by omega, List.take_length]
  have : List.drop (Int.toNat (if (p.length : Int) < (1 : Int) then (p.length : Int) else (1 : Int))) p = List.drop 1 p := by
   cases p with
   | nil => rfl
   | cons a p =>
    rw [if_neg (by simp only [List.length_cons]; omega)]
    rfl
  rw [this]
  exact y07 q t blk _ ht (by simp only [List.length_drop]; omega)
 rw [if_pos (by split <;> omega), if_pos (by split <;> omega), if_pos (Int.le_refl _), e]
 rfl
def y88 (vs : List yh) (id : Int) : Bool := !Yo (wC id) vs 0
theorem Qj (q : List Int) (t : List y0) (l : List ya) (cs : List y8) (vs : List yh) (z id : Int) (hv : vs.length ≤ 1048576) : k7 (q, t, l, cs, vs, z, id) = some (y88 vs id) := by
 unfold k7 y0W y88
 refine (zK (step := Wh _ _) (fun i => (id, i, q, t, l, cs, vs, z)) (wC id) (some false) (some true) yD vs (by omega) ?_ ?_).trans ?_
 ·intro again i h0 h1
  have hw : Go.IntKind.wrap .i64 (i + 1) = i + 1 := w64 (by omega) (by omega)
  unfold Wh wC
  have hx : vs.getD i.toNat yD = yc vs i := rfl
  rw [hx]
  simp only [Bool.cond_eq_ite, decide_eq_true_eq, h0, h1, if_true, hw]
 ·intro again i hi
  unfold Wh
  simp only [Bool.cond_eq_ite, decide_eq_true_eq, if_neg hi]
 ·cases Yo (wC id) vs 0 <;> rfl
def wE (q : List Int) (sp : Int) : Nat → Int
 | 0 => -1
 | n + 1 => if q.getD n 0 ≤ sp then (n : Int) else wE q sp n
def jF (blk age : Int) : Int := Go.IntKind.wrap .i64 (Go.IntKind.wrap .i64 ((64 : Int) * blk) + age)
theorem y50 (q : List Int) (sp : Int) : ∀ n, -1 ≤ wE q sp n ∧ wE q sp n < n
 | 0 => by simp [wE]
 | n + 1 => by
  have := y50 q sp n
  rw [wE]
  split <;> omega
theorem Qk (q : List Int) (t : List y0) (blk age : Int) (hq : q.length ≤ 1048576) : jr (q, t, blk, age) = some (wE q (jF blk age) q.length) := by
 unfold jr qh
 have h := ZH (step := wk (fun x2 => some x2)) (fun u : wj => q.length - u.2.2.2.1.toNat) (fun u => ∃ n : Nat, n ≤ q.length ∧ u = (blk, age, wE q (jF blk age) n, (n : Int), q, t)) (fun _ => some (wE q (jF blk age) q.length)) ?_ (blk, age, -1, 0, q, t) ⟨0, by omega, rfl⟩ (by simp; omega)
 ·exact h
 ·rintro again u ⟨n, hn, rfl⟩ hag
  have hw : Go.IntKind.wrap .i64 ((n : Int) + 1) = ((n + 1 : Nat) : Int) := by rw [w64 (by omega) (by omega)]; omega
  unfold wk Jr
  have h0 : 0 ≤ (n : Int) := by omega
  by_cases hlt : (n : Int) < (q.length : Int)
  ·have hx : zt q (n : Int) = q.getD n 0 := rfl
   simp only [Bool.cond_eq_ite, decide_eq_true_eq, hlt, h0, if_true, Option.bind_some, hw, hx]
   have e := hag (blk, age, wE q (jF blk age) (n + 1), ((n + 1 : Nat) : Int), q, t) ⟨n + 1, by omega, rfl⟩ (by simp only; omega)
   rw [wE] at e
   unfold jF at e ⊢
   split
   ·rename_i hc
    rw [if_pos hc] at e
    exact e
   ·rename_i hc
    rw [if_neg hc] at e
    exact e
  ·rw [show n = q.length by omega]
   simp
theorem Ql (q : List Int) (t : List y0) (blk age : Int) (hq : q.length ≤ 1048576) : jv (q, t, blk, age) = some (wE q (jF blk age) q.length) := by
 unfold jv qm
 rw [w64 (n := (q.length : Int) - 1) (by omega) (by omega)]
 have h := ZH (step := ws (fun x2 => some x2) (fun x3 => some (-1 : Int))) (fun u : wq => (u.2.2.1 + 1).toNat) (fun u => ∃ n : Nat, n ≤ q.length ∧ u = (blk, age, (n : Int) - 1, q, t)) (fun u => some (wE q (jF blk age) (u.2.2.1 + 1).toNat)) ?_ (blk, age, (q.length : Int) - 1, q, t) ⟨q.length, by omega, rfl⟩ (by simp; omega)
 ·rw [h]
  simp only
  rw [show ((q.length : Int) - 1 + 1).toNat = q.length by omega]
 ·rintro again u ⟨n, hn, rfl⟩ hag
  unfold ws Z3
  cases n with
  | zero => simp [wE]
  | succ n =>
   have e1 : ((n + 1 : Nat) : Int) - 1 = (n : Int) := by omega
   have hw : Go.IntKind.wrap .i64 ((n : Int) - 1) = (n : Int) - 1 := w64 (by omega) (by omega)
   have hx : zt q (n : Int) = q.getD n 0 := rfl
   have h0 : 0 ≤ (n : Int) := by omega
   have h1 : (n : Int) < (q.length : Int) := by omega
   rw [e1]
   simp only [Bool.cond_eq_ite, decide_eq_true_eq, ge_iff_le, h0, h1, if_true, Option.bind_some, hw, hx]
   have e := hag (blk, age, (n : Int) - 1, q, t) ⟨n, by omega, rfl⟩ (by simp only; omega)
   rw [e]
   simp only
   rw [show ((n : Int) - 1 + 1).toNat = n by omega, show ((n : Int) + 1).toNat = n + 1 by omega, wE]
   unfold jF
   split <;> rfl
abbrev Ans : Type := Int × Int × Int × Int × Int × Bool
def y3y : Ans := (0, 0, 0, 0, 0, false)
def atP (blk age : Int) (a : y7) : Bool := a.1 == blk && a.2.1 == age
def Qm (a : y7) : Ans := (a.1, a.2.1, a.2.2.1, a.2.2.2.1, a.2.2.2.2, true)
def wS (l : List y7) (blk age : Int) : Ans := if zX (atP blk age) l 0 < 0 then y3y else Qm (y6 l (zX (atP blk age) l 0))
theorem y16 (l : List y7) (blk age : Int) (hl : l.length ≤ 1073741824) : wL (l, blk, age) = some (wS l blk age) := by
 unfold wL y01 wS
 refine (YK (step := JX _ _) (fun i => (l, blk, age, i, 0, 0, 0, 0, 0)) (atP blk age) (fun i => some (Qm (y6 l i))) (some y3y) yH l (by omega) ?_ ?_).trans ?_
 ·intro again i h0 h1
  have hw : Go.IntKind.wrap .i64 (i + 1) = i + 1 := w64 (by omega) (by omega)
  unfold JX atP Qm
  obtain ⟨⟨x1, x2, x3, x4, x5⟩, hx⟩ : ∃ x, y6 l i = x := ⟨_, rfl⟩
  have hx' : l.getD i.toNat yH = (x1, x2, x3, x4, x5) := hx
  rw [hx']
  simp only [Bool.cond_eq_ite, decide_eq_true_eq, h0, h1, if_true, hw, hx]
  cases (x1 == blk) <;> cases (x2 == age) <;> rfl
 ·intro again i hi
  unfold JX
  simp only [Bool.cond_eq_ite, decide_eq_true_eq, if_neg hi]
  rfl
 ·split <;> rfl
theorem y17 (l : List y7) (blk age : Int) (hl : l.length ≤ 1073741824) : wO (l, blk, age) = some (wS l blk age) := by
 unfold wO y04 wS
 refine (YK (step := w9 _ _) (fun i => (blk, age, l, (l.length : Int), i, 0, 0, 0, 0, 0)) (atP blk age) (fun i => some (Qm (y6 l i))) (some y3y) yH l (by omega) ?_ ?_).trans ?_
 ·intro again i h0 h1
  have hw : Go.IntKind.wrap .i64 (i + 1) = i + 1 := w64 (by omega) (by omega)
  unfold w9 atP Qm
  obtain ⟨⟨x1, x2, x3, x4, x5⟩, hx⟩ : ∃ x, y6 l i = x := ⟨_, rfl⟩
  have hx' : l.getD i.toNat yH = (x1, x2, x3, x4, x5) := hx
  rw [hx']
  simp only [Bool.cond_eq_ite, decide_eq_true_eq, h0, h1, if_true, hw, hx]
  cases (x1 == blk) <;> cases (x2 == age) <;> rfl
 ·intro again i hi
  unfold w9
  simp only [Bool.cond_eq_ite, decide_eq_true_eq, if_neg hi]
  rfl
 ·split <;> rfl
def j6 (n : List y9) (blk age : Int) : Nat → Ans
 | 0 => y3y
 | m + 1 => if (wS (n.getD m yT) blk age).2.2.2.2.2 = true then (if ((wS (n.getD m yT) blk age).2.2.1 == 0) = true then y3y else wS (n.getD m yT) blk age) else j6 n blk age m
theorem y4g (n : List y9) (blk age : Int) (hn : n.length ≤ 1048576) (hs : ∀ s ∈ n, List.length s ≤ 1073741824) : Wa (n, blk, age) = some (j6 n blk age n.length) := by
 unfold Wa qP
 rw [w64 (n := (n.length : Int) - 1) (by omega) (by omega)]
 refine (ZH (step := W9 _ _) (fun u : W8 => (u.2.2.1 + 1).toNat) (fun u => ∃ m : Nat, m ≤ n.length ∧ u = (blk, age, (m : Int) - 1, n, 0, 0, 0, 0, 0)) (fun u => some (j6 n blk age (u.2.2.1 + 1).toNat)) ?_ (blk, age, (n.length : Int) - 1, n, 0, 0, 0, 0, 0) ⟨n.length, by omega, rfl⟩ (by simp; omega)).trans ?_
 ·rintro again u ⟨m, hm, rfl⟩ hag
  unfold W9
  cases m with
  | zero => rfl
  | succ m =>
   have e1 : ((m + 1 : Nat) : Int) - 1 = (m : Int) := by omega
   have hw : Go.IntKind.wrap .i64 ((m : Int) - 1) = (m : Int) - 1 := w64 (by omega) (by omega)
   have h0 : 0 ≤ (m : Int) := by omega
   have h1 : (m : Int) < (n.length : Int) := by omega
   have e := y16 (yl n (m : Int)) blk age (hs _ (z4 yT n (m : Int) h0 h1))
   have hx : n.getD m yT = yl n (m : Int) := rfl
   rw [e1]
   simp only [Bool.cond_eq_ite, decide_eq_true_eq, ge_iff_le, h0, h1, if_true, Option.bind_some, hw, e]
   have e' := hag (blk, age, (m : Int) - 1, n, 0, 0, 0, 0, 0) ⟨m, by omega, rfl⟩ (by simp only; omega)
   rw [e', show ((m : Int) + 1).toNat = m + 1 by omega, j6, hx]
   simp only
   rw [show ((m : Int) - 1 + 1).toNat = m by omega]
   obtain ⟨r1, r2, r3, r4, r5, r6⟩ := wS (yl n (m : Int)) blk age
   cases r6
   ·rfl
   ·cases h3 : (r3 == 0) <;> simp [h3, y3y]
 ·simp only
  rw [show ((n.length : Int) - 1 + 1).toNat = n.length by omega]
theorem y4h (n : List y9) (blk age : Int) (hn : n.length ≤ 1048576) (hs : ∀ s ∈ n, List.length s ≤ 1073741824) : WE (n, blk, age) = some (j6 n blk age n.length) := by
 unfold WE Qa
 rw [w64 (n := (n.length : Int) - 1) (by omega) (by omega)]
 refine (ZH (step := WD _ _) (fun u : WC => (u.2.2.1 + 1).toNat) (fun u => ∃ m : Nat, m ≤ n.length ∧ u = (blk, age, (m : Int) - 1, n, 0, 0, 0, 0, 0)) (fun u => some (j6 n blk age (u.2.2.1 + 1).toNat)) ?_ (blk, age, (n.length : Int) - 1, n, 0, 0, 0, 0, 0) ⟨n.length, by omega, rfl⟩ (by simp; omega)).trans ?_
 ·rintro again u ⟨m, hm, rfl⟩ hag
  unfold WD
  cases m with
  | zero => rfl
  | succ m =>
   have e1 : ((m + 1 : Nat) : Int) - 1 = (m : Int) := by omega
   have hw : Go.IntKind.wrap .i64 ((m : Int) - 1) = (m : Int) - 1 := w64 (by omega) (by omega)
   have h0 : 0 ≤ (m : Int) := by omega
   have h1 : (m : Int) < (n.length : Int) := by omega
   have e := y17 (yl n (m : Int)) blk age (hs _ (z4 yT n (m : Int) h0 h1))
   have hx : n.getD m yT = yl n (m : Int) := rfl
   rw [e1]
   simp only [Bool.cond_eq_ite, decide_eq_true_eq, ge_iff_le, h0, h1, if_true, Option.bind_some, hw, e]
   have e' := hag (blk, age, (m : Int) - 1, n, 0, 0, 0, 0, 0) ⟨m, by omega, rfl⟩ (by simp only; omega)
   rw [e', show ((m : Int) + 1).toNat = m + 1 by omega, j6, hx]
   simp only
   rw [show ((m : Int) - 1 + 1).toNat = m by omega]
   obtain ⟨r1, r2, r3, r4, r5, r6⟩ := wS (yl n (m : Int)) blk age
   cases r6
   ·rfl
   ·cases h3 : (r3 == 0) <;> simp [h3, y3y]
 ·simp only
  rw [show ((n.length : Int) - 1 + 1).toNat = n.length by omega]
def YL (q : List Int) (t : List y0) (blk age : Int) : Ans :=
 if inR (wE q (jF blk age) q.length) 0 ((t.length : Int) - 1) = true then j6 (yd t (wE q (jF blk age) q.length)) blk age (yd t (wE q (jF blk age) q.length)).length else y3y
theorem kM (q : List Int) (t : List y0) (blk age : Int) (ht : TOk t) (hq : q.length ≤ 1048576) : ZR (q, t, blk, age) = some (YL q t blk age) := by
 unfold ZR YL
 have hlen := ht.len
 rw [w64 (n := (t.length : Int) - 1) (by omega) (by omega)]
 simp only [Qk q t blk age hq, Zj, Option.bind_some]
 generalize wE q (jF blk age) q.length = i
 by_cases h : inR i 0 ((t.length : Int) - 1) = true
 ·obtain ⟨h0, h1⟩ := zo.1 h
  have hmem : yd t i ∈ t := z4 yi t i h0 (by omega)
  obtain ⟨a1, a2⟩ := ht.node hmem
  have e := y4g (yd t i) blk age a1 (fun s hs => by have := a2 s hs; omega)
  rw [h, if_pos h0, if_pos (by omega), e]
  rfl
 ·have : inR i 0 ((t.length : Int) - 1) = false := by simpa using h
  rw [this]
  rfl
theorem y0d (q : List Int) (t : List y0) (blk age : Int) (ht : TOk t) (hq : q.length ≤ 1048576) : JE (q, t, blk, age) = some (YL q t blk age) := by
 unfold JE YL
 have hlen := ht.len
 rw [w64 (n := (t.length : Int) - 1) (by omega) (by omega)]
 simp only [Ql q t blk age hq, Za, Option.bind_some]
 generalize wE q (jF blk age) q.length = i
 by_cases h : inR i 0 ((t.length : Int) - 1) = true
 ·obtain ⟨h0, h1⟩ := zo.1 h
  have hmem : yd t i ∈ t := z4 yi t i h0 (by omega)
  obtain ⟨a1, a2⟩ := ht.node hmem
  have e := y4h (yd t i) blk age a1 (fun s hs => by have := a2 s hs; omega)
  rw [h, if_pos h0, if_pos (by omega), e]
  rfl
 ·have : inR i 0 ((t.length : Int) - 1) = false := by simpa using h
  rw [this]
  rfl
end Go.Proofs.YtjllpipmaejeoaaGreat.Pl
namespace Go.Proofs.YtjllpipmaejeoaaGreat.Pl
open Go.Proofs.YtjllpipmaejeoaaGreat.R Go.Proofs.YtjllpipmaejeoaaGreat.XR
structure NS (n : List y9) : Prop where
 len : n.length ≤ 1000
 sum : WG V7 n ≤ 1000
theorem NS.mem {n : List y9} (h : NS n) {s : y9} (hs : s ∈ n) : List.length s ≤ 1000 := by
 have h1 := (QB ku hs).1
 have h2 := h.sum
 have h3 : V7 s = (List.length s : Int) := rfl
 omega
theorem NS.q {n : List y9} (h : NS n) : y2i n := ⟨Nat.le_trans h.len (by decide), fun b hb => Nat.le_trans (h.mem hb) (by decide)⟩
theorem NS.keys {n : List y9} (h : NS n) : (yF n).length ≤ 1000 := by
 have h1 := K0 n
 have h2 := h.sum
 omega
def JJ (n : List y9) : y9 := n.getD (n.length - 1) yT
theorem y3z {n : List y9} (h : 0 < n.length) : JJ n ∈ n := by
 unfold JJ
 rw [zZ _ _ _ (by omega)]
 exact List.getElem_mem _
def wh (n : List y9) (k : y7) : List y9 :=
 if 0 < n.length ∧ (List.length (JJ n) < 4 ∨ (wS (JJ n) k.1 k.2.1).2.2.2.2.2 = true) then n.set (n.length - 1) (Yb (JJ n) k) else n ++ [[k]]
def Ya (n : List y9) (k : y7) : List y7 := kt (Yb (yF n) k)
def zk (n : List y9) (k : y7) : List y9 × Bool :=
 if Ys (wh n k) = true then (wh n k, true) else if (Ya n k).length > 8 then (n, false) else if Ys (yR (Ya n k)) = true then (yR (Ya n k), true) else (n, false)
theorem ydG (l : List y7) : (kt l).length ≤ l.length := by
 have := y3o l []
 simpa [kt] using this
theorem y18 (n : List y9) (k : y7) : (Ya n k).length ≤ (yF n).length + 1 := by
 have h1 := ydG (Yb (yF n) k)
 have h2 := wP (yF n) k
 unfold Ya
 omega
theorem Jk (l : List y7) (h : l.length ≤ 1048576) : yS l = some (yR l) := by
 unfold yS yR
 by_cases h0 : l.length = 0
 ·rw [if_pos h0, show (((List.length l : Nat) : Int) == 0) = true from beq_iff_eq.2 (by omega)]
  rfl
 ·rw [if_neg h0, show (((List.length l : Nat) : Int) == 0) = false from beq_eq_false_iff_ne.2 (by omega), cond_false, if_pos (by simp only [List.length_nil]; omega)]
  rfl
theorem WK (l : List y7) (h : l.length ≤ 1048576) : zm l = some (yR l) := by
 unfold zm yR
 by_cases h0 : l.length = 0
 ·rw [if_pos h0, show (((List.length l : Nat) : Int) == 0) = true from beq_iff_eq.2 (by omega)]
  rfl
 ·rw [if_neg h0, show (((List.length l : Nat) : Int) == 0) = false from beq_eq_false_iff_ne.2 (by omega), cond_false, Ke l h]
  rfl
theorem QH {l : List y7} (h : l.length ≤ 1000) : NS (yR l) := by
 unfold yR
 split
 ·exact ⟨by simp, by simp [WG]⟩
 ·exact ⟨by simp, by simp [WG, V7]; omega⟩
theorem y3A (l : List y7) : (yR l).length ≤ 1 ∧ WG V7 (yR l) ≤ l.length := by
 unfold yR
 split
 ·exact ⟨by simp, by simp [WG]⟩
 ·exact ⟨by simp, by simp [WG, V7]⟩
theorem yjV {n : List y9} (i : Nat) (s : y9) (hi : i < n.length) : WG V7 (n.set i s) = WG V7 n - V7 (n.getD i yT) + V7 s := by
 induction n generalizing i with
 | nil => simp at hi
 | cons a n ih =>
  cases i with
  | zero =>
   rw [List.set_cons_zero, Y1, Y1]
   simp
   omega
  | succ i =>
   rw [List.set_cons_succ, Y1, Y1, ih i (by simpa using hi), List.getD_cons_succ]
   omega
theorem ydH {A : Type} (w : A → Int) (l : List A) (a : A) : WG w (l ++ [a]) = WG w l + w a := by
 induction l with
 | nil => simp [WG]
 | cons b l ih =>
  rw [List.cons_append, Y1, Y1, ih]
  omega
theorem y1D (n : List y9) (k : y7) : (wh n k).length ≤ n.length + 1 ∧ WG V7 (wh n k) ≤ WG V7 n + 1 := by
 unfold wh
 split
 ·rename_i h
  have h1 := wP (JJ n) k
  have h2 : V7 (Yb (JJ n) k) ≤ V7 (JJ n) + 1 := by
   unfold V7
   have : List.length (Yb (JJ n) k) ≤ List.length (JJ n) + 1 := h1
   omega
  rw [List.length_set, yjV _ _ (by omega)]
  have e : n.getD (n.length - 1) yT = JJ n := rfl
  rw [e]
  constructor <;> omega
 ·rw [ydH, List.length_append]
  have e : V7 [k] = 1 := rfl
  rw [e]
  exact ⟨Nat.le_refl _, Int.le_refl _⟩
theorem NS.small {n : List y9} (h1 : n.length ≤ 1001) (h2 : WG V7 n ≤ 1001) : n.length ≤ 1073741824 ∧ ∀ s ∈ n, List.length s ≤ 1073741824 := by
 refine ⟨by omega, fun s hs => ?_⟩
 have h3 := (QB ku hs).1
 have h4 : V7 s = (List.length s : Int) := rfl
 omega
section
variable (n : List y9) (a b c d e : Int) (h : NS n)
include h
theorem y3B : JY (n, a, b, c, d, e) = some (zk n (a, b, c, d, e)) := by
 have hk := h.keys
 have hl := h.len
 have hs := h.sum
 have hW := y18 n (a, b, c, d, e)
 have hN := y3A (Ya n (a, b, c, d, e))
 have hN2 := NS.small (n := yR (Ya n (a, b, c, d, e))) (by omega) (by omega)
 have hO := y1D n (a, b, c, d, e)
 have hO2 := NS.small (n := wh n (a, b, c, d, e)) (by omega) (by omega)
 have hw : Go.IntKind.wrap .i64 ((n.length : Int) - 1) = (n.length : Int) - 1 := w64 (by omega) (by omega)
 have hT : ∀ out, out = wh n (a, b, c, d, e) → (Option.bind (zg out) fun r6 => bif r6 then some (out, true) else Option.bind (yz n) fun r7 => Option.bind (zy (r7, a, b, c, d, e)) fun r8 => Option.bind (zR r8) fun r9 => bif (decide (((List.length r9 : Nat) : Int) > (8 : Int))) then some (n, false) else Option.bind (yS r9) fun r11 => Option.bind (zg r11) fun r12 => bif (!r12) then some (n, false) else Option.bind (yS r9) fun r14 => some (r14, true)) = some (zk n (a, b, c, d, e)) := by
  rintro out rfl
  have e1 : zR (Yb (yF n) (a, b, c, d, e)) = some (Ya n (a, b, c, d, e)) := Qd _ (by have := wP (yF n) (a, b, c, d, e); omega)
  simp only [vY _ hO2.1 hO2.2, YR n (by omega) (by omega), kJ (yF n) a b c d e (by omega), e1, Jk (Ya n (a, b, c, d, e)) (by omega), vY _ hN2.1 hN2.2, Option.bind_some]
  unfold zk
  cases Ys (wh n (a, b, c, d, e)) with
  | true => rfl
  | false =>
   by_cases h8 : (Ya n (a, b, c, d, e)).length > 8
   ·rw [decide_eq_true (show ((List.length (Ya n (a, b, c, d, e)) : Nat) : Int) > 8 by omega), if_pos h8]
    rfl
   ·rw [decide_eq_false (show ¬ ((List.length (Ya n (a, b, c, d, e)) : Nat) : Int) > 8 by omega), if_neg h8]
    cases Ys (yR (Ya n (a, b, c, d, e))) <;> rfl
 unfold JY
 simp only [V3 n h.q, Option.bind_some, hw]
 by_cases h0 : n.length = 0
 ·have e1 : ¬ (0 < n.length ∧ (List.length (JJ n) < 4 ∨ (wS (JJ n) a b).2.2.2.2.2 = true)) := fun hh => by omega
  simp only [decide_eq_false (show ¬ ((n.length : Int) - 1 ≥ 0) by omega), cond_false, Option.bind_some]
  rw [if_pos (by simp only [List.length_cons, List.length_nil]; omega)]
  exact hT _ (by unfold wh; rw [if_neg e1])
 ·have i0 : 0 ≤ (n.length : Int) - 1 := by omega
  have i1 : (n.length : Int) - 1 < ((List.length n : Nat) : Int) := by omega
  have hlm := h.mem (y3z (n := n) (by omega))
  have erd : yl n ((n.length : Int) - 1) = JJ n := by
   show n.getD ((n.length : Int) - 1).toNat yT = n.getD (n.length - 1) yT
   congr 1
   omega
  have etn : ((n.length : Int) - 1).toNat = n.length - 1 := by omega
  rw [decide_eq_true (show (n.length : Int) - 1 ≥ 0 from i0)]
  simp only [cond_true, i0, i1, if_true, erd, etn, y16 (JJ n) a b (by omega), kJ (JJ n) a b c d e (by omega), Option.bind_some]
  by_cases h4 : List.length (JJ n) < 4
  ·rw [decide_eq_true (show ((List.length (JJ n) : Nat) : Int) < 4 by omega)]
   exact hT _ (by unfold wh; rw [if_pos ⟨by omega, .inl h4⟩])
  ·rw [decide_eq_false (show ¬ ((List.length (JJ n) : Nat) : Int) < 4 by omega)]
   cases hA : (wS (JJ n) a b).2.2.2.2.2 with
   | true => exact hT _ (by unfold wh; rw [if_pos ⟨by omega, .inr hA⟩])
   | false =>
    simp only [cond_false, Option.bind_some]
    rw [if_pos (by simp only [List.length_cons, List.length_nil]; omega)]
    exact hT _ (by
     unfold wh
     rw [if_neg fun hh => ?_]
     rcases hh.2 with hh | hh
     ·exact h4 hh
     ·rw [hA] at hh
      cases hh)
theorem qr : zJ (n, a, b, c, d, e) = some (Ya n (a, b, c, d, e)) := by
 have hk := h.keys
 have hl := h.len
 have hs := h.sum
 have e1 : J1 (Yb (yF n) (a, b, c, d, e)) = some (Ya n (a, b, c, d, e)) := y21 _ (by have := wP (yF n) (a, b, c, d, e); omega)
 unfold zJ
 simp only [jp n (by omega) (by omega), vX (yF n) a b c d e (by omega), e1, Option.bind_some]
theorem y3C : wc (n, a, b, c, d, e) = some (zk n (a, b, c, d, e)) := by
 have hk := h.keys
 have hl := h.len
 have hs := h.sum
 have hW := y18 n (a, b, c, d, e)
 have hN := y3A (Ya n (a, b, c, d, e))
 have hN2 := NS.small (n := yR (Ya n (a, b, c, d, e))) (by omega) (by omega)
 have hO := y1D n (a, b, c, d, e)
 have hO2 := NS.small (n := wh n (a, b, c, d, e)) (by omega) (by omega)
 have hw : Go.IntKind.wrap .i64 ((n.length : Int) - 1) = (n.length : Int) - 1 := w64 (by omega) (by omega)
 have hT : ∀ out, out = wh n (a, b, c, d, e) → (Option.bind (zB out) fun r5 => bif r5 then some (out, true) else Option.bind (zJ (n, a, b, c, d, e)) fun r6 => Option.bind (zm r6) fun r7 => Option.bind (bif (decide (((List.length r6 : Nat) : Int) > (8 : Int))) then some true else Option.bind (zB r7) fun r9 => some (!r9)) fun u8 => bif u8 then some (n, false) else some (r7, true)) = some (zk n (a, b, c, d, e)) := by
  rintro out rfl
  simp only [vZ _ hO2.1 hO2.2, qr n a b c d e h, WK (Ya n (a, b, c, d, e)) (by omega), vZ _ hN2.1 hN2.2, Option.bind_some]
  unfold zk
  cases Ys (wh n (a, b, c, d, e)) with
  | true => rfl
  | false =>
   by_cases h8 : (Ya n (a, b, c, d, e)).length > 8
   ·rw [decide_eq_true (show ((List.length (Ya n (a, b, c, d, e)) : Nat) : Int) > 8 by omega), if_pos h8]
    rfl
   ·rw [decide_eq_false (show ¬ ((List.length (Ya n (a, b, c, d, e)) : Nat) : Int) > 8 by omega), if_neg h8]
    cases Ys (yR (Ya n (a, b, c, d, e))) <;> rfl
 unfold wc
 simp only [Kf n h.q, Option.bind_some, hw]
 by_cases h0 : n.length = 0
 ·have e1 : ¬ (0 < n.length ∧ (List.length (JJ n) < 4 ∨ (wS (JJ n) a b).2.2.2.2.2 = true)) := fun hh => by omega
  simp only [decide_eq_false (show ¬ ((n.length : Int) - 1 ≥ 0) by omega), cond_false, Option.bind_some]
  rw [if_pos (by simp only [List.length_cons, List.length_nil]; omega)]
  exact hT _ (by unfold wh; rw [if_neg e1])
 ·have i0 : 0 ≤ (n.length : Int) - 1 := by omega
  have i1 : (n.length : Int) - 1 < ((List.length n : Nat) : Int) := by omega
  have hlm := h.mem (y3z (n := n) (by omega))
  have erd : yl n ((n.length : Int) - 1) = JJ n := by
   show n.getD ((n.length : Int) - 1).toNat yT = n.getD (n.length - 1) yT
   congr 1
   omega
  have etn : ((n.length : Int) - 1).toNat = n.length - 1 := by omega
  rw [decide_eq_true (show (n.length : Int) - 1 ≥ 0 from i0)]
  simp only [cond_true, i0, i1, if_true, erd, etn, y17 (JJ n) a b (by omega), vX (JJ n) a b c d e (by omega), Option.bind_some]
  cases hA : (wS (JJ n) a b).2.2.2.2.2 with
  | true => exact hT _ (by unfold wh; rw [if_pos ⟨by omega, .inr hA⟩])
  | false =>
   by_cases h4 : List.length (JJ n) < 4
   ·rw [decide_eq_true (show ((List.length (JJ n) : Nat) : Int) < 4 by omega)]
    exact hT _ (by unfold wh; rw [if_pos ⟨by omega, .inl h4⟩])
   ·rw [decide_eq_false (show ¬ ((List.length (JJ n) : Nat) : Int) < 4 by omega)]
    simp only [cond_false, Option.bind_some]
    rw [if_pos (by simp only [List.length_cons, List.length_nil]; omega)]
    exact hT _ (by
     unfold wh
     rw [if_neg fun hh => ?_]
     rcases hh.2 with hh | hh
     ·exact h4 hh
     ·rw [hA] at hh
      cases hh)
end
end Go.Proofs.YtjllpipmaejeoaaGreat.Pl
namespace Go.Proofs.YtjllpipmaejeoaaGreat.Pl
open Go.Proofs.YtjllpipmaejeoaaGreat.R Go.Proofs.YtjllpipmaejeoaaGreat.XR
structure TS (t : List y0) : Prop where
 len : t.length ≤ 100
 node : ∀ n ∈ t, NS n
theorem TS.ok {t : List y0} (h : TS t) : TOk t := by
 have hl := h.len
 refine ⟨by omega, fun n hn => Nat.le_trans (h.node n hn).len (by decide), ?_⟩
 have hb : ∀ (t : List y0), (∀ n ∈ t, NS n) → WG qt t ≤ 2000 * t.length := by
  intro t
  induction t with
  | nil => intro _; simp [WG]
  | cons a t ih =>
   intro hn
   have h1 := ih fun n h => hn n (by simp [h])
   have h2 := hn a (by simp)
   have h3 : qt a = (List.length a : Int) + WG V7 a := rfl
   have h4 : List.length a ≤ 1000 := h2.len
   have h5 : WG V7 a ≤ 1000 := h2.sum
   rw [Y1, List.length_cons]
   omega
 have := hb t h.node
 omega
def zc {A : Type} (l : List A) (i c : Nat) (m : List A) : List A := l.take i ++ m ++ l.drop (i + c)
theorem JK {A : Type} (l : List A) (i c : Nat) (m : List A) (h : i + c ≤ l.length) : (zc l i c m).length = l.length + m.length - c := by
 unfold zc
 simp only [List.length_append, List.length_take, List.length_drop]
 omega
theorem ybY {A : Type} {l : List A} {i c : Nat} {m : List A} {x : A} (h : x ∈ zc l i c m) : x ∈ l ∨ x ∈ m := by
 unfold zc at h
 rcases List.mem_append.1 h with h | h
 ·rcases List.mem_append.1 h with h | h
  ·exact .inl (List.mem_of_mem_take h)
  ·exact .inr h
 ·exact .inl (List.mem_of_mem_drop h)
theorem y1E {A : Type} (l : List A) (i : Nat) (x : A) (h : i < l.length) : zc l i 1 [x] = l.set i x := by
 unfold zc
 rw [List.set_eq_take_append_cons_drop, if_pos h]
 simp
theorem ybZ {A : Type} (d : A) (l : List A) (i : Nat) (h : i + 2 ≤ l.length) : zc l i 2 [l.getD i d] = l.take (i + 1) ++ l.drop (i + 2) := by
 unfold zc
 rw [zZ _ _ _ (by omega), List.take_succ_eq_append_getElem (by omega)]
theorem TS.splice {t : List y0} (h : TS t) {i c : Nat} {m : List y0} (hl : (zc t i c m).length ≤ 100) (hm : ∀ n ∈ m, NS n) : TS (zc t i c m) :=
 ⟨hl, fun n hn => (ybY hn).elim (h.node n) (hm n)⟩
theorem VR (q : List Int) (t : List y0) (i : Int) (ql : List Int) (tl : List y0) (h0 : 0 ≤ i) (h1 : i < (q.length : Int)) (h2 : i < (t.length : Int)) (hq : q.length ≤ 1000) (ht : t.length ≤ 1000) (hql : ql.length ≤ 1000) (htl : tl.length ≤ 1000) :
  jS (q, t, i, ql, tl) = some (zc q i.toNat 1 ql, zc t i.toNat 1 tl) := by
 have hw : Go.IntKind.wrap .i64 (i + 1) = i + 1 := w64 (by omega) (by omega)
 have e1 : (i + 1).toNat = i.toNat + 1 := by omega
 unfold jS
 simp only [hw]
 iterate 18 rw [if_pos (by first | omega | (simp only [List.length_append, List.length_drop, List.length_take, List.length_nil]; omega))]
 simp [zc, e1]
theorem Kg (q : List Int) (t : List y0) (i c : Int) (ql : List Int) (tl : List y0) (h0 : 0 ≤ i) (hc : 0 ≤ c) (h1 : i + c ≤ (q.length : Int)) (h2 : i + c ≤ (t.length : Int)) (hq : q.length ≤ 1000) (ht : t.length ≤ 1000) (hql : ql.length ≤ 1000) (htl : tl.length ≤ 1000) :
  zV (q, t, i, c, ql, tl) = some (zc q i.toNat c.toNat ql, zc t i.toNat c.toNat tl) := by
 have hw : Go.IntKind.wrap .i64 (i + c) = i + c := w64 (by omega) (by omega)
 have e1 : (i + c).toNat = i.toNat + c.toNat := by omega
 have e2 : List.drop (Int.toNat 0) (List.take (Int.toNat i) q) = q.take i.toNat := rfl
 unfold zV
 simp only [hw]
 iterate 3 rw [if_pos (by omega)]
 rw [e2, qo _ (by rw [List.length_take]; omega)]
 simp only [Option.bind_some]
 iterate 14 rw [if_pos (by first | omega | (simp only [List.length_append, List.length_drop, List.length_take, List.length_nil]; omega))]
 simp [zc, e1]
def yJ : List y0 → Int → Int
 | a :: b :: r, i => if (yF a).length + (yF b).length ≤ 6 then i else yJ (b :: r) (i + 1)
 | _, _ => -1
theorem y3D (l : List y0) (i : Int) (h : l.length ≤ 1) : yJ l i = -1 := by
 match l, h with
 | [], _ => rfl
 | [_], _ => rfl
theorem y1F : ∀ (l : List y0) (i : Int), yJ l i = -1 ∨ i ≤ yJ l i ∧ yJ l i + 2 ≤ i + l.length ∧ (yF (l.getD (yJ l i - i).toNat yi)).length + (yF (l.getD (yJ l i - i + 1).toNat yi)).length ≤ 6
 | [], _ => .inl rfl
 | [_], _ => .inl rfl
 | a :: b :: r, i => by
  rw [yJ]
  by_cases h : (yF a).length + (yF b).length ≤ 6
  ·rw [if_pos h]
   refine .inr ⟨Int.le_refl _, by simp only [List.length_cons]; omega, ?_⟩
   rw [show (i - i).toNat = 0 by omega, show (i - i + 1).toNat = 1 by omega]
   exact h
  ·rw [if_neg h]
   rcases y1F (b :: r) (i + 1) with h1 | ⟨h1, h2, h3⟩
   ·exact .inl h1
   ·refine .inr ⟨by omega, by simp only [List.length_cons] at h2 ⊢; omega, ?_⟩
    rw [show (yJ (b :: r) (i + 1) - i).toNat = (yJ (b :: r) (i + 1) - (i + 1)).toNat + 1 by omega, show (yJ (b :: r) (i + 1) - i + 1).toNat = (yJ (b :: r) (i + 1) - (i + 1) + 1).toNat + 1 by omega, List.getD_cons_succ, List.getD_cons_succ]
    exact h3
theorem yaQ (t : List y0) (i : Int) (h0 : 0 ≤ i) (h1 : i + 1 < (t.length : Int)) : yJ (t.drop i.toNat) i = if (yF (yd t i)).length + (yF (yd t (i + 1))).length ≤ 6 then i else yJ (t.drop (i + 1).toNat) (i + 1) := by
 rw [we yi t i h0 (by omega), we yi t (i + 1) (by omega) h1, yJ]
 rfl
theorem nk {t : List y0} (h : TS t) {i : Int} (h0 : 0 ≤ i) (h1 : i < (t.length : Int)) : NS (yd t i) := h.node _ (z4 yi t i h0 h1)
theorem vn {t : List y0} (h : TS t) {i : Int} (h0 : 0 ≤ i) (h1 : i < (t.length : Int)) : yz (yd t i) = some (yF (yd t i)) := by
 have hn := nk h h0 h1
 exact YR _ (Nat.le_trans hn.len (by decide)) (Int.le_trans hn.sum (by decide))
theorem y3E {t : List y0} (h : TS t) {i : Int} (h0 : 0 ≤ i) (h1 : i < (t.length : Int)) : yL (yd t i) = some (yF (yd t i)) := by
 have hn := nk h h0 h1
 exact jp _ (Nat.le_trans hn.len (by decide)) (Int.le_trans hn.sum (by decide))
theorem y23 (q : List Int) (t : List y0) (h : TS t) : Jx (q, t) = some (yJ t 0) := by
 have hl := h.len
 unfold Jx qQ
 refine ZH (step := Wb _ _) (fun x : Int × List Int × List y0 => t.length - x.1.toNat) (fun x => x.2.2 = t ∧ 0 ≤ x.1 ∧ x.1 ≤ (t.length : Int)) (fun x => some (yJ (t.drop x.1.toNat) x.1)) ?_ (0, q, t) ⟨rfl, Int.le_refl _, by simp⟩ (by simp; omega)
 rintro again ⟨i, q', t'⟩ ⟨rfl, i0, i1⟩ hag
 simp only at i0 i1 hl h ⊢
 unfold Wb
 by_cases hi : i + 1 < (t'.length : Int)
 ·have hw : Go.IntKind.wrap .i64 (i + 1) = i + 1 := w64 (by omega) (by omega)
  have k1 := nk h i0 (show i < (t'.length : Int) by omega)
  have k2 := nk h (show 0 ≤ i + 1 by omega) hi
  have hw2 : Go.IntKind.wrap .i64 (((List.length (yF (yd t' i)) : Nat) : Int) + ((List.length (yF (yd t' (i + 1))) : Nat) : Int)) = ((List.length (yF (yd t' i)) : Nat) : Int) + ((List.length (yF (yd t' (i + 1))) : Nat) : Int) := w64 (by omega) (by have := k1.keys; have := k2.keys; omega)
  simp only [hw, vn h i0 (show i < (t'.length : Int) by omega), vn h (show 0 ≤ i + 1 by omega) hi, Option.bind_some, hw2]
  rw [decide_eq_true hi, cond_true, if_pos i0, if_pos (by omega), if_pos (by omega), if_pos hi, yaQ t' i i0 hi]
  by_cases h6 : (yF (yd t' i)).length + (yF (yd t' (i + 1))).length ≤ 6
  ·rw [decide_eq_true (show ((List.length (yF (yd t' i)) : Nat) : Int) + ((List.length (yF (yd t' (i + 1))) : Nat) : Int) ≤ 6 by omega), if_pos h6]
   rfl
  ·rw [decide_eq_false (show ¬ ((List.length (yF (yd t' i)) : Nat) : Int) + ((List.length (yF (yd t' (i + 1))) : Nat) : Int) ≤ 6 by omega), if_neg h6]
   exact hag _ ⟨rfl, by simp only; omega, by simp only; omega⟩ (by simp only; omega)
 ·have hw : ¬ Go.IntKind.wrap .i64 (i + 1) < (t'.length : Int) := by
   rw [w64 (by omega) (by omega)]
   exact hi
  rw [decide_eq_false hw, y3D _ _ (by rw [List.length_drop]; omega)]
  rfl
def JN : Nat → List Int → List y0 → List Int × List y0
 | 0, q, t => (q, t)
 | m + 1, q, t => if yJ t 0 < 0 then (q, t) else JN m (zc q (yJ t 0).toNat 2 [q.getD (yJ t 0).toNat 0]) (zc t (yJ t 0).toNat 2 [yR (yF (t.getD (yJ t 0).toNat yi) ++ yF (t.getD (yJ t 0 + 1).toNat yi))])
section
variable {q : List Int} {t : List y0} (h : TS t) (hq : q.length = t.length) (hp : ¬ yJ t 0 < 0)
include h hp
omit h in
theorem y6R : 0 ≤ yJ t 0 ∧ yJ t 0 + 2 ≤ (t.length : Int) ∧ (yF (yd t (yJ t 0))).length + (yF (yd t (yJ t 0 + 1))).length ≤ 6 := by
 rcases y1F t 0 with h1 | ⟨h1, h2, h3⟩
 ·omega
 ·refine ⟨h1, by omega, ?_⟩
  rw [Int.sub_zero] at h3
  exact h3
theorem y9J : TS (zc t (yJ t 0).toNat 2 [yR (yF (yd t (yJ t 0)) ++ yF (yd t (yJ t 0 + 1)))]) := by
 obtain ⟨h1, h2, h3⟩ := y6R hp
 have hl := h.len
 refine h.splice (by rw [JK _ _ _ _ (by omega)]; simp only [List.length_cons, List.length_nil]; omega) fun n hn => ?_
 obtain rfl := List.mem_singleton.1 hn
 exact QH (by rw [List.length_append]; omega)
include hq
theorem yaR : (zc t (yJ t 0).toNat 2 [yR (yF (yd t (yJ t 0)) ++ yF (yd t (yJ t 0 + 1)))]).length = t.length - 1 ∧ (zc q (yJ t 0).toNat 2 [q.getD (yJ t 0).toNat 0]).length = t.length - 1 := by
 obtain ⟨h1, h2, h3⟩ := y6R hp
 rw [JK _ _ _ _ (by omega), JK _ _ _ _ (by omega)]
 simp only [List.length_cons, List.length_nil]
 omega
theorem y51 : JN t.length q t = JN (t.length - 1) (zc q (yJ t 0).toNat 2 [q.getD (yJ t 0).toNat 0]) (zc t (yJ t 0).toNat 2 [yR (yF (yd t (yJ t 0)) ++ yF (yd t (yJ t 0 + 1)))]) := by
 obtain ⟨h1, h2, h3⟩ := y6R hp
 rw [show t.length = (t.length - 1) + 1 by omega, JN, if_neg hp]
 rfl
end
theorem y89 {q : List Int} {t : List y0} (m : Nat) (hp : yJ t 0 < 0) : JN m q t = (q, t) := by
 cases m with
 | zero => rfl
 | succ m => rw [JN, if_pos hp]
theorem y8a (q : List Int) (t : List y0) (h : TS t) (hq : q.length = t.length) : YY (q, t) = some (JN t.length q t) := by
 have hl := h.len
 unfold YY qR
 simp only [y23 q t h, Option.bind_some]
 refine ZH (step := Wc _) (fun x : Int × List Int × List y0 => x.2.2.length) (fun x => TS x.2.2 ∧ x.2.1.length = x.2.2.length ∧ x.1 = yJ x.2.2 0) (fun x => some (JN x.2.2.length x.2.1 x.2.2)) ?_ (yJ t 0, q, t) ⟨h, hq, rfl⟩ (by simp only; omega)
 rintro again ⟨i, q, t⟩ ⟨h, hq, hi⟩ hag
 simp only at h hq hi ⊢
 subst hi
 have hl := h.len
 unfold Wc
 by_cases hp : yJ t 0 < 0
 ·rw [decide_eq_false (show ¬ yJ t 0 ≥ 0 by omega), y89 _ hp]
  rfl
 ·obtain ⟨h1, h2, h3⟩ := y6R hp
  have hw : Go.IntKind.wrap .i64 (yJ t 0 + 1) = yJ t 0 + 1 := w64 (by omega) (by omega)
  have hw2 : Go.IntKind.wrap .i64 (yJ t 0 + 2) = yJ t 0 + 2 := w64 (by omega) (by omega)
  have hT := y9J h hp
  have hL := yaR h hq hp
  have eq1 : ([] ++ List.drop (Int.toNat 0) (List.take (Int.toNat (yJ t 0 + 1)) q)) ++ List.drop (Int.toNat (yJ t 0 + 2)) (List.take (Int.toNat (q.length : Int)) q) = zc q (yJ t 0).toNat 2 [q.getD (yJ t 0).toNat 0] := by
   rw [ybZ 0 q _ (by omega), show (yJ t 0 + 1).toNat = (yJ t 0).toNat + 1 by omega, show (yJ t 0 + 2).toNat = (yJ t 0).toNat + 2 by omega]
   simp
  have eq2 : ∀ n : y0, (([] ++ List.drop (Int.toNat 0) (List.take (Int.toNat (yJ t 0)) t)) ++ [n]) ++ List.drop (Int.toNat (yJ t 0 + 2)) (List.take (Int.toNat (t.length : Int)) t) = zc t (yJ t 0).toNat 2 [n] := fun n => by
   rw [show (yJ t 0 + 2).toNat = (yJ t 0).toNat + 2 by omega]
   simp [zc]
  simp only [hw, hw2, vn h h1 (show yJ t 0 < (t.length : Int) by omega), vn h (show 0 ≤ yJ t 0 + 1 by omega) (show yJ t 0 + 1 < (t.length : Int) by omega), Jk (yF (yd t (yJ t 0)) ++ yF (yd t (yJ t 0 + 1))) (by rw [List.length_append]; omega), Option.bind_some, eq1, eq2, y23 _ _ hT]
  rw [decide_eq_true (show yJ t 0 ≥ 0 from h1), cond_true]
  iterate 22 rw [if_pos (by first | omega | (simp only [List.length_append, List.length_drop, List.length_take, List.length_nil, List.length_cons]; omega))]
  rw [y51 h hq hp, ← hL.1]
  exact hag (yJ (zc t (yJ t 0).toNat 2 [yR (yF (yd t (yJ t 0)) ++ yF (yd t (yJ t 0 + 1)))]) 0, zc q (yJ t 0).toNat 2 [q.getD (yJ t 0).toNat 0], zc t (yJ t 0).toNat 2 [yR (yF (yd t (yJ t 0)) ++ yF (yd t (yJ t 0 + 1)))]) ⟨hT, hL.2.trans hL.1.symm, rfl⟩ (by simp only; omega)
theorem y4i (q : List Int) (t : List y0) (h : TS t) (hq : q.length = t.length) : Z7 (q, t) = some (JN t.length q t) := by
 have hl := h.len
 unfold Z7 Q9
 have key : ∀ (i : Int) (q : List Int) (t : List y0) (k1 k2 : Int × List Int × List y0 → Option (List Int × List y0)), TS t → q.length = t.length → 0 ≤ i → i ≤ (t.length : Int) → yJ t 0 = yJ (t.drop i.toNat) i →
   (∀ i' q' t', TS t' → q'.length = t'.length → 0 ≤ i' → i' ≤ (t'.length : Int) → yJ t' 0 = yJ (t'.drop i'.toNat) i' → t'.length * 1000 + (t'.length - i'.toNat) < t.length * 1000 + (t.length - i.toNat) → k1 (i', q', t') = some (JN t'.length q' t') ∧ k2 (i', q', t') = some (JN t'.length q' t')) →
   (bif (decide ((Go.IntKind.wrap .i64 (i + (1 : Int))) < ((List.length t : Nat) : Int))) then if (0 : Int) ≤ i then if i < ((List.length t : Nat) : Int) then Option.bind (yL (yd t i)) fun r5 => if (0 : Int) ≤ (Go.IntKind.wrap .i64 (i + (1 : Int))) then if (Go.IntKind.wrap .i64 (i + (1 : Int))) < ((List.length t : Nat) : Int) then Option.bind (yL (yd t (Go.IntKind.wrap .i64 (i + (1 : Int))))) fun r6 => if (List.length r5 + List.length r6) * 40 < 140737488355328 then bif (decide (((List.length (r5 ++ r6) : Nat) : Int) ≤ (6 : Int))) then if (0 : Int) ≤ i then if i < ((List.length q : Nat) : Int) then Option.bind (zm (r5 ++ r6)) fun r7 => Option.bind (zV (q, t, i, (2 : Int), ([(zt q i)] : List yb), ([r7] : List y0))) fun r8 => k1 ((Go.IntKind.wrap .i64 ((-1 : Int) + (1 : Int))), r8.1, r8.2) else none else none else k2 ((Go.IntKind.wrap .i64 (i + (1 : Int))), q, t) else none else none else none else none else none else some (q, t)) = some (JN t.length q t) := by
  intro i q t k1 k2 h hq i0 i1 hpi hk
  have hl := h.len
  have hw : Go.IntKind.wrap .i64 (i + 1) = i + 1 := w64 (by omega) (by omega)
  have hw0 : Go.IntKind.wrap .i64 (-1 + 1) = 0 := rfl
  simp only [hw, hw0]
  by_cases hi : i + 1 < (t.length : Int)
  ·have g1 := (nk h i0 (show i < (t.length : Int) by omega)).keys
   have g2 := (nk h (show 0 ≤ i + 1 by omega) hi).keys
   rw [yaQ t i i0 hi] at hpi
   simp only [y3E h i0 (show i < (t.length : Int) by omega), y3E h (show 0 ≤ i + 1 by omega) hi, Option.bind_some]
   rw [decide_eq_true hi, cond_true, if_pos i0, if_pos (by omega), if_pos (by omega), if_pos hi, if_pos (by omega)]
   by_cases h6 : (yF (yd t i)).length + (yF (yd t (i + 1))).length ≤ 6
   ·rw [if_pos h6] at hpi
    subst hpi
    have hp : ¬ yJ t 0 < 0 := by omega
    have hT := y9J h hp
    have hL := yaR h hq hp
    rw [decide_eq_true (show ((List.length (yF (yd t (yJ t 0)) ++ yF (yd t (yJ t 0 + 1))) : Nat) : Int) ≤ 6 by rw [List.length_append]; omega), cond_true, if_pos i0, if_pos (by omega), WK _ (by rw [List.length_append]; omega)]
    simp only [Option.bind_some]
    rw [Kg q t _ 2 _ _ i0 (by decide) (by omega) (by omega) (by omega) (by omega) (by simp) (by simp)]
    simp only [Option.bind_some]
    rw [y51 h hq hp, ← hL.1]
    exact (hk 0 (zc q (yJ t 0).toNat 2 [q.getD (yJ t 0).toNat 0]) (zc t (yJ t 0).toNat 2 [yR (yF (yd t (yJ t 0)) ++ yF (yd t (yJ t 0 + 1)))]) hT (hL.2.trans hL.1.symm) (Int.le_refl _) (by omega) rfl (by omega)).1
   ·rw [if_neg h6] at hpi
    rw [decide_eq_false (show ¬ ((List.length (yF (yd t i) ++ yF (yd t (i + 1))) : Nat) : Int) ≤ 6 by rw [List.length_append]; omega), cond_false]
    exact (hk (i + 1) q t h hq (by omega) (by omega) hpi (by omega)).2
  ·rw [y3D (t.drop i.toNat) i (by rw [List.length_drop]; omega)] at hpi
   rw [decide_eq_false hi, y89 _ (by omega)]
   rfl
 refine ZH (step := vg _ _) (fun x : (Int × List Int × List y0) ⊕ (Int × List Int × List y0) => (Sum.elim id id x).2.2.length * 1000 + ((Sum.elim id id x).2.2.length - (Sum.elim id id x).1.toNat)) (fun x => TS (Sum.elim id id x).2.2 ∧ (Sum.elim id id x).2.1.length = (Sum.elim id id x).2.2.length ∧ 0 ≤ (Sum.elim id id x).1 ∧ (Sum.elim id id x).1 ≤ ((Sum.elim id id x).2.2.length : Int) ∧ yJ (Sum.elim id id x).2.2 0 = yJ ((Sum.elim id id x).2.2.drop (Sum.elim id id x).1.toNat) (Sum.elim id id x).1)
  (fun x => some (JN (Sum.elim id id x).2.2.length (Sum.elim id id x).2.1 (Sum.elim id id x).2.2)) ?_ (Sum.inl (0, q, t)) ⟨h, hq, Int.le_refl _, by simp, rfl⟩ (by simp; omega)
 rintro again (⟨i, q, t⟩ | ⟨i, q, t⟩) ⟨h, hq, i0, i1, hpi⟩ hag
 ·exact key i q t (fun x => again (Sum.inr x)) (fun x => again (Sum.inl x)) h hq i0 i1 hpi fun i' q' t' a1 a2 a3 a4 a5 a6 => ⟨hag (Sum.inr (i', q', t')) ⟨a1, a2, a3, a4, a5⟩ a6, hag (Sum.inl (i', q', t')) ⟨a1, a2, a3, a4, a5⟩ a6⟩
 ·exact key i q t (fun x => again (Sum.inr x)) (fun x => again (Sum.inr x)) h hq i0 i1 hpi fun i' q' t' a1 a2 a3 a4 a5 a6 => ⟨hag (Sum.inr (i', q', t')) ⟨a1, a2, a3, a4, a5⟩ a6, hag (Sum.inr (i', q', t')) ⟨a1, a2, a3, a4, a5⟩ a6⟩
end Go.Proofs.YtjllpipmaejeoaaGreat.Pl
namespace Go.Proofs.YtjllpipmaejeoaaGreat.Pl
open Go.Proofs.YtjllpipmaejeoaaGreat.R Go.Proofs.YtjllpipmaejeoaaGreat.XR
theorem yaS : ∀ (n : List y9) (s : Int), 0 ≤ s → s + 60 * n.length ≤ 1000 → (∀ a ∈ n, List.length a ≤ 60) → n.foldl y08 s = s + WG V7 n
 | [], s, _, _, _ => by simp [WG]
 | a :: n, s, h0, hb, ha => by
  have h1 := ha a (by simp)
  rw [List.length_cons] at hb
  have hw : y08 s a = s + (List.length a : Int) := w64 (by omega) (by omega)
  have e : V7 a = (List.length a : Int) := rfl
  rw [List.foldl_cons, hw, yaS n _ (by omega) (by omega) fun b hm => ha b (by simp [hm]), Y1, e]
  omega
theorem wT {n : List y9} (h : Ys n = true) : n.length ≤ 3 ∧ WG V7 n ≤ 8 ∧ ∀ s ∈ n, ∀ k ∈ (show List y7 from s), Ym k = true := by
 obtain ⟨h1, h2⟩ := y13 h
 have h3 := yaS n 0 (Int.le_refl _) (by omega) fun a ha => (y2J (h2 a ha)).1
 unfold Ys at h
 simp only [Bool.and_eq_true, decide_eq_true_eq] at h
 exact ⟨h1, by omega, fun s hs => (y2J (h2 s hs)).2⟩
theorem y19 {n : List y9} (h : Ys n = true) : NS n := ⟨by have := (wT h).1; omega, by have := (wT h).2.1; omega⟩
theorem y1a {q : List Int} {t : List y0} (h : zp q t = true) : TS t := by
 obtain ⟨h1, h2, h3, h4⟩ := Jj h
 exact ⟨by omega, fun n hn => y19 (h4 n hn)⟩
theorem y9K {q : List Int} {t : List y0} (h : zp q t = true) : q.getD 0 0 = 0 := by
 unfold zp at h
 simp only [Bool.and_eq_true, beq_iff_eq] at h
 exact h.2.2.1
theorem y24 (q : List Int) (sp : Int) (h : q.getD 0 0 ≤ sp) : ∀ n, 0 ≤ wE q sp (n + 1)
 | 0 => by
  rw [wE, if_pos h]
  simp
 | n + 1 => by
  rw [wE]
  split
  ·omega
  ·exact y24 q sp h n
theorem yfu {k : y7} (h : Ym k = true) : 0 ≤ jF k.1 k.2.1 := by
 unfold Ym at h
 simp only [Bool.and_eq_true, zo] at h
 obtain ⟨h1, h2, _⟩ := h
 unfold jF
 rw [w64 (n := (64 : Int) * k.1) (by omega) (by omega), w64 (by omega) (by omega)]
 omega
theorem yfv {n : List y9} {k : y7} (hn : Ys n = true) (hk : Ym k = true) (h : (zk n k).2 = false) : 8 < (Ya n k).length := by
 unfold zk at h
 split at h
 ·cases h
 ·split at h
  ·assumption
  ·rename_i h8
   have hok : Ys (yR (Ya n k)) = true := y4Z (vm (wR k (Vw n))) (fun x hx => by
    rcases y4X (y86 hx) with rfl | hx
    ·exact hk
    ·obtain ⟨c, hc, hx⟩ := y14 hx
     exact (wT hn).2.2 c hc x hx) (by omega)
   rw [if_pos hok] at h
   cases h
theorem y1G {n : List y9} (k : y7) (h : NS n) (h2 : n.length ≤ 900 ∧ WG V7 n ≤ 900) : NS (zk n k).1 := by
 have h1 := y1D n k
 have h3 := y18 n k
 have h4 := K0 n
 unfold zk
 split
 ·exact ⟨by simp only; omega, by simp only; omega⟩
 ·split
  ·exact h
  ·split
   ·exact QH (by omega)
   ·exact h
def yX (q : List Int) (k : y7) : Nat := (wE q (jF k.1 k.2.1) q.length).toNat
def WM (l : List y7) : Nat := (l.length + 1) / 2
def yx (q : List Int) (t : List y0) (k : y7) : List Int × List y0 :=
 if (zk (t.getD (yX q k) yi) k).2 = false then
  (zc q (yX q k) 1 [q.getD (yX q k) 0, QR ((Ya (t.getD (yX q k) yi) k).getD (WM (Ya (t.getD (yX q k) yi) k)) yH)],
   zc t (yX q k) 1 [yR ((Ya (t.getD (yX q k) yi) k).take (WM (Ya (t.getD (yX q k) yi) k))), yR ((Ya (t.getD (yX q k) yi) k).drop (WM (Ya (t.getD (yX q k) yi) k)))])
 else if 0 < yX q k ∧ (yF (zk (t.getD (yX q k) yi) k).1).length = 0 then (zc q (yX q k) 1 [], zc t (yX q k) 1 [])
 else (q, t.set (yX q k) (zk (t.getD (yX q k) yi) k).1)
def yo (q : List Int) (t : List y0) (k : y7) : List Int × List y0 × Bool :=
 if (zp q t && Ym k) = true then
  (if zp (JN (yx q t k).2.length (yx q t k).1 (yx q t k).2).1 (JN (yx q t k).2.length (yx q t k).1 (yx q t k).2).2 = true then
   ((JN (yx q t k).2.length (yx q t k).1 (yx q t k).2).1, (JN (yx q t k).2.length (yx q t k).1 (yx q t k).2).2, true) else (q, t, false))
 else (q, t, false)
theorem y6S : ∀ (m : Nat) (q : List Int) (t : List y0), TS t → TS (JN m q t).2
 | 0, _, _, h => h
 | m + 1, q, t, h => by
  rw [JN]
  split
  ·exact h
  ·rename_i hp
   exact y6S m _ _ (y9J h hp)
section
variable {q : List Int} {t : List y0} {k : y7} (h : zp q t = true) (hk : Ym k = true)
include h hk
theorem QI : (wE q (jF k.1 k.2.1) q.length) = (yX q k : Int) ∧ yX q k < t.length ∧ yX q k < q.length := by
 obtain ⟨h1, h2, h3, h4⟩ := Jj h
 have h5 := y24 q (jF k.1 k.2.1) (by rw [y9K h]; exact yfu hk) (q.length - 1)
 rw [show q.length - 1 + 1 = q.length by omega] at h5
 have h6 := y50 q (jF k.1 k.2.1) q.length
 unfold yX
 omega
theorem Qn : Ys (t.getD (yX q k) yi) = true := by
 have h1 := (QI h hk).2.1
 rw [zZ _ _ _ h1]
 exact (Jj h).2.2.2 _ (List.getElem_mem _)
theorem y9L (hm : (zk (t.getD (yX q k) yi) k).2 = false) : WM (Ya (t.getD (yX q k) yi) k) < (Ya (t.getD (yX q k) yi) k).length ∧ (Ya (t.getD (yX q k) yi) k).length ≤ 9 := by
 have h1 := yfv (Qn h hk) hk hm
 have h2 := y18 (t.getD (yX q k) yi) k
 have h3 := K0 (t.getD (yX q k) yi)
 have h4 := (wT (Qn h hk)).2.1
 unfold WM
 omega
theorem y52 : TS (yx q t k).2 ∧ (yx q t k).1.length = (yx q t k).2.length := by
 obtain ⟨h1, h2, h3, h4⟩ := Jj h
 obtain ⟨g0, g1, g2⟩ := QI h hk
 have hT := y1a h
 have hn := wT (Qn h hk)
 unfold yx
 split
 ·rename_i hm
  have hh := y9L h hk hm
  refine ⟨hT.splice (by rw [JK _ _ _ _ (by omega)]; simp only [List.length_cons, List.length_nil]; omega) fun n hn => ?_, by rw [JK _ _ _ _ (by omega), JK _ _ _ _ (by omega)]; simp only [List.length_cons, List.length_nil]; omega⟩
  simp only [List.mem_cons, List.mem_nil_iff, or_false] at hn
  rcases hn with rfl | rfl
  ·exact QH (by rw [List.length_take]; omega)
  ·exact QH (by rw [List.length_drop]; omega)
 ·split
  ·refine ⟨hT.splice (by rw [JK _ _ _ _ (by omega)]; simp only [List.length_nil]; omega) (fun n hn => by cases hn), by rw [JK _ _ _ _ (by omega), JK _ _ _ _ (by omega)]; simp only [List.length_nil]; omega⟩
  ·refine ⟨⟨by simp only [List.length_set]; omega, fun n hn2 => (List.mem_or_eq_of_mem_set hn2).elim (hT.node n) fun e => e ▸ y1G k (y19 (Qn h hk)) (by omega)⟩, by simp only [List.length_set]; omega⟩
end
theorem Jl (q : List Int) (t : List y0) (a b c d e : Int) (hT : TOk t) (hQ : ∀ n ∈ t, y2i n) (hq : q.length ≤ 1048576) : zP (q, t, a, b, c, d, e) = some (yo q t (a, b, c, d, e)) := by
 unfold zP yo
 simp only [V4 q t hq hT.len hQ, V1 q t hT, y10, Option.bind_some]
 cases h : zp q t with
 | false => rfl
 | true =>
  cases hk : Ym (a, b, c, d, e) with
  | false => rfl
  | true =>
   obtain ⟨h1, h2, h3, h4⟩ := Jj h
   obtain ⟨g0, g1, g2⟩ := QI h hk
   have hNS := y19 (Qn h hk)
   have hnf := wT (Qn h hk)
   have hP := y52 h hk
   have hJ := y6S (yx q t (a, b, c, d, e)).2.length (yx q t (a, b, c, d, e)).1 (yx q t (a, b, c, d, e)).2 hP.1
   have ern : yd t (yX q (a, b, c, d, e) : Int) = t.getD (yX q (a, b, c, d, e)) yi := by
    show t.getD ((yX q (a, b, c, d, e) : Int)).toNat yi = _
    rw [Int.toNat_natCast]
   have erq : zt q (yX q (a, b, c, d, e) : Int) = q.getD (yX q (a, b, c, d, e)) 0 := by
    show q.getD ((yX q (a, b, c, d, e) : Int)).toNat 0 = _
    rw [Int.toNat_natCast]
   have hfin : ∀ p : List Int × List y0, p = yx q t (a, b, c, d, e) → (Option.bind (YY (p.1, p.2)) fun r15 => Option.bind (Ye (r15.1, r15.2)) fun r16 => bif (!r16) then some (q, t, false) else some (r15.1, r15.2, true)) = some (if zp (JN (yx q t (a, b, c, d, e)).2.length (yx q t (a, b, c, d, e)).1 (yx q t (a, b, c, d, e)).2).1 (JN (yx q t (a, b, c, d, e)).2.length (yx q t (a, b, c, d, e)).1 (yx q t (a, b, c, d, e)).2).2 = true then ((JN (yx q t (a, b, c, d, e)).2.length (yx q t (a, b, c, d, e)).1 (yx q t (a, b, c, d, e)).2).1, (JN (yx q t (a, b, c, d, e)).2.length (yx q t (a, b, c, d, e)).1 (yx q t (a, b, c, d, e)).2).2, true) else (q, t, false)) := by
    rintro p rfl
    simp only [y8a _ _ hP.1 hP.2, Option.bind_some, V1 _ _ hJ.ok]
    cases zp (JN (yx q t (a, b, c, d, e)).2.length (yx q t (a, b, c, d, e)).1 (yx q t (a, b, c, d, e)).2).1 (JN (yx q t (a, b, c, d, e)).2.length (yx q t (a, b, c, d, e)).1 (yx q t (a, b, c, d, e)).2).2 <;> rfl
   simp only [Bool.not_true, cond_false, Option.bind_some, Qk q t a b hq, show wE q (jF a b) q.length = (yX q (a, b, c, d, e) : Int) from g0, ern, erq, Bool.and_self, if_true]
   rw [if_pos (by omega), if_pos (by omega), y3B _ a b c d e hNS]
   simp only [Option.bind_some]
   rw [if_pos (by omega), if_pos (by omega), VR q t _ _ _ (by omega) (by omega) (by omega) (by omega) (by omega) (by simp) (by simp)]
   simp only [Option.bind_some, Int.toNat_natCast]
   cases hm : (zk (t.getD (yX q (a, b, c, d, e)) yi) (a, b, c, d, e)).2 with
   | false =>
    have hh := y9L h hk hm
    have hkn := (hNS.keys)
    have hsl := wP (yF (t.getD (yX q (a, b, c, d, e)) yi)) (a, b, c, d, e)
    have e1 : zR (Yb (yF (t.getD (yX q (a, b, c, d, e)) yi)) (a, b, c, d, e)) = some (Ya (t.getD (yX q (a, b, c, d, e)) yi) (a, b, c, d, e)) := Qd _ (by omega)
    have hput := yx.eq_1 q t (a, b, c, d, e)
    rw [if_pos hm] at hput
    generalize hW : Ya (t.getD (yX q (a, b, c, d, e)) yi) (a, b, c, d, e) = W at hh e1 hput
    have hwr : Go.IntKind.wrap .i64 (Int.tdiv (Go.IntKind.wrap .i64 (((List.length W : Nat) : Int) + (1 : Int))) (2 : Int)) = (WM W : Int) := by
     rw [w64 (n := ((List.length W : Nat) : Int) + 1) (by omega) (by omega), Int.tdiv_eq_ediv_of_nonneg (by omega)]
     unfold WM
     rw [w64 (by omega) (by omega)]
     omega
    simp only [Bool.not_false, cond_true, YR _ (Nat.le_trans hNS.len (by decide)) (Int.le_trans hNS.sum (by decide)), kJ _ a b c d e (show (yF (t.getD (yX q (a, b, c, d, e)) yi)).length ≤ 1073741824 by omega), e1, Option.bind_some, hwr, Int.toNat_natCast]
    rw [if_pos (by omega), if_pos (by omega), if_pos (by omega), if_pos (by omega), if_pos (by omega), if_pos (by omega)]
    have e2 : Js ((y6 W (WM W : Int)).1, (y6 W (WM W : Int)).2.1, (y6 W (WM W : Int)).2.2.1, (y6 W (WM W : Int)).2.2.2.1, (y6 W (WM W : Int)).2.2.2.2) = some (QR (W.getD (WM W) yH)) := by
     have e3 : y6 W (WM W : Int) = W.getD (WM W) yH := by
      show W.getD ((WM W : Int)).toNat yH = _
      rw [Int.toNat_natCast]
     rw [e3]
     rfl
    rw [e2]
    simp only [Option.bind_some]
    rw [if_pos (by omega), if_pos (by omega), if_pos (by omega), Jk _ (by simp only [List.length_drop, List.length_take]; omega)]
    simp only [Option.bind_some]
    rw [if_pos (by omega), if_pos (by omega), if_pos (by omega), Jk _ (by simp only [List.length_drop, List.length_take]; omega)]
    simp only [Option.bind_some]
    rw [VR q t _ _ _ (by omega) (by omega) (by omega) (by omega) (by omega) (by simp) (by simp)]
    simp only [Option.bind_some, Int.toNat_natCast, List.take_length]
    exact hfin _ hput.symm
   | true =>
    have hP2 := y1G (a, b, c, d, e) hNS (by omega)
    have hnm : ¬ (zk (t.getD (yX q (a, b, c, d, e)) yi) (a, b, c, d, e)).2 = false := by rw [hm]; simp
    simp only [Bool.not_true, cond_false, YR _ (Nat.le_trans hP2.len (by decide)) (Int.le_trans hP2.sum (by decide)), Option.bind_some]
    have hput := yx.eq_1 q t (a, b, c, d, e)
    rw [if_neg hnm] at hput
    have h3 : (bif decide ((yX q (a, b, c, d, e) : Int) > 0) then some (((List.length (yF (zk (t.getD (yX q (a, b, c, d, e)) yi) (a, b, c, d, e)).1) : Nat) : Int) == 0) else some false) = some (decide (0 < yX q (a, b, c, d, e) ∧ (yF (zk (t.getD (yX q (a, b, c, d, e)) yi) (a, b, c, d, e)).1).length = 0)) := by
     by_cases i0 : 0 < yX q (a, b, c, d, e)
     ·rw [decide_eq_true (show (yX q (a, b, c, d, e) : Int) > 0 by omega), cond_true]
      congr 1
      by_cases i1 : (yF (zk (t.getD (yX q (a, b, c, d, e)) yi) (a, b, c, d, e)).1).length = 0
      ·rw [decide_eq_true ⟨i0, i1⟩]
       exact beq_iff_eq.2 (by omega)
      ·rw [decide_eq_false (fun hh => i1 hh.2)]
       exact beq_eq_false_iff_ne.2 (by omega)
     ·rw [decide_eq_false (show ¬ (yX q (a, b, c, d, e) : Int) > 0 by omega), decide_eq_false (fun hh => i0 hh.1)]
      rfl
    rw [h3]
    simp only [Option.bind_some]
    by_cases hz : 0 < yX q (a, b, c, d, e) ∧ (yF (zk (t.getD (yX q (a, b, c, d, e)) yi) (a, b, c, d, e)).1).length = 0
    ·rw [if_pos hz] at hput
     rw [decide_eq_true hz, cond_true, VR q t _ _ _ (by omega) (by omega) (by omega) (by omega) (by omega) (by simp) (by simp)]
     simp only [Option.bind_some, Int.toNat_natCast]
     exact hfin _ hput.symm
    ·rw [if_neg hz] at hput
     rw [decide_eq_false hz, cond_false]
     rw [y1E q _ _ (by omega), y1E t _ _ (by omega)]
     refine hfin (q.set (yX q (a, b, c, d, e)) (q.getD (yX q (a, b, c, d, e)) 0), t.set (yX q (a, b, c, d, e)) (zk (t.getD (yX q (a, b, c, d, e)) yi) (a, b, c, d, e)).1) ?_
     rw [hput, zZ _ _ _ (by omega), List.set_getElem_self]
theorem y3F (q : List Int) (t : List y0) (a b c d e : Int) (hT : TOk t) (hQ : ∀ n ∈ t, y2i n) (hq : q.length ≤ 1048576) : wd (q, t, a, b, c, d, e) = some (yo q t (a, b, c, d, e)) := by
 unfold wd yo
 simp only [qp q t hq hT.len hQ, V2 q t hT, y11, Option.bind_some]
 cases h : zp q t with
 | false => rfl
 | true =>
  cases hk : Ym (a, b, c, d, e) with
  | false => rfl
  | true =>
   obtain ⟨h1, h2, h3, h4⟩ := Jj h
   obtain ⟨g0, g1, g2⟩ := QI h hk
   have hNS := y19 (Qn h hk)
   have hnf := wT (Qn h hk)
   have hP := y52 h hk
   have hJ := y6S (yx q t (a, b, c, d, e)).2.length (yx q t (a, b, c, d, e)).1 (yx q t (a, b, c, d, e)).2 hP.1
   have ern : yd t (yX q (a, b, c, d, e) : Int) = t.getD (yX q (a, b, c, d, e)) yi := by
    show t.getD ((yX q (a, b, c, d, e) : Int)).toNat yi = _
    rw [Int.toNat_natCast]
   have erq : zt q (yX q (a, b, c, d, e) : Int) = q.getD (yX q (a, b, c, d, e)) 0 := by
    show q.getD ((yX q (a, b, c, d, e) : Int)).toNat 0 = _
    rw [Int.toNat_natCast]
   have hfin : ∀ p : List Int × List y0, p = yx q t (a, b, c, d, e) → (Option.bind (Z7 (p.1, p.2)) fun r15 => Option.bind (Yf (r15.1, r15.2)) fun r16 => bif (!r16) then some (q, t, false) else some (r15.1, r15.2, true)) = some (if zp (JN (yx q t (a, b, c, d, e)).2.length (yx q t (a, b, c, d, e)).1 (yx q t (a, b, c, d, e)).2).1 (JN (yx q t (a, b, c, d, e)).2.length (yx q t (a, b, c, d, e)).1 (yx q t (a, b, c, d, e)).2).2 = true then ((JN (yx q t (a, b, c, d, e)).2.length (yx q t (a, b, c, d, e)).1 (yx q t (a, b, c, d, e)).2).1, (JN (yx q t (a, b, c, d, e)).2.length (yx q t (a, b, c, d, e)).1 (yx q t (a, b, c, d, e)).2).2, true) else (q, t, false)) := by
    rintro p rfl
    simp only [y4i _ _ hP.1 hP.2, Option.bind_some, V2 _ _ hJ.ok]
    cases zp (JN (yx q t (a, b, c, d, e)).2.length (yx q t (a, b, c, d, e)).1 (yx q t (a, b, c, d, e)).2).1 (JN (yx q t (a, b, c, d, e)).2.length (yx q t (a, b, c, d, e)).1 (yx q t (a, b, c, d, e)).2).2 <;> rfl
   simp only [Bool.not_true, cond_false, Option.bind_some, Ql q t a b hq, show wE q (jF a b) q.length = (yX q (a, b, c, d, e) : Int) from g0, ern, erq, Bool.and_self, if_true]
   rw [if_pos (by omega), if_pos (by omega), y3C _ a b c d e hNS]
   simp only [Option.bind_some, Int.toNat_natCast]
   cases hm : (zk (t.getD (yX q (a, b, c, d, e)) yi) (a, b, c, d, e)).2 with
   | false =>
    have hh := y9L h hk hm
    have e1 : zJ (t.getD (yX q (a, b, c, d, e)) yi, a, b, c, d, e) = some (Ya (t.getD (yX q (a, b, c, d, e)) yi) (a, b, c, d, e)) := qr _ a b c d e hNS
    have hput := yx.eq_1 q t (a, b, c, d, e)
    rw [if_pos hm] at hput
    generalize hW : Ya (t.getD (yX q (a, b, c, d, e)) yi) (a, b, c, d, e) = W at hh e1 hput
    have hwr : Go.IntKind.wrap .i64 (Int.tdiv (Go.IntKind.wrap .i64 (((List.length W : Nat) : Int) + (1 : Int))) (2 : Int)) = (WM W : Int) := by
     rw [w64 (n := ((List.length W : Nat) : Int) + 1) (by omega) (by omega), Int.tdiv_eq_ediv_of_nonneg (by omega)]
     unfold WM
     rw [w64 (by omega) (by omega)]
     omega
    simp only [Bool.not_false, cond_true, e1, Option.bind_some, hwr, Int.toNat_natCast]
    rw [if_pos (by omega), if_pos (by omega), if_pos (by omega), if_pos (by omega), if_pos (by omega), if_pos (by omega)]
    have e2 : Z3 ((y6 W (WM W : Int)).1, (y6 W (WM W : Int)).2.1) = some (QR (W.getD (WM W) yH)) := by
     have e3 : y6 W (WM W : Int) = W.getD (WM W) yH := by
      show W.getD ((WM W : Int)).toNat yH = _
      rw [Int.toNat_natCast]
     rw [e3]
     rfl
    rw [e2]
    simp only [Option.bind_some]
    rw [if_pos (by omega), if_pos (by omega), if_pos (by omega), WK _ (by simp only [List.length_drop, List.length_take]; omega)]
    simp only [Option.bind_some]
    rw [if_pos (by omega), if_pos (by omega), if_pos (by omega), WK _ (by simp only [List.length_drop, List.length_take]; omega)]
    simp only [Option.bind_some]
    rw [Kg q t _ 1 _ _ (by omega) (by decide) (by omega) (by omega) (by omega) (by omega) (by simp) (by simp)]
    simp only [Option.bind_some, Int.toNat_natCast, List.take_length]
    exact hfin _ hput.symm
   | true =>
    have hP2 := y1G (a, b, c, d, e) hNS (by omega)
    have hnm : ¬ (zk (t.getD (yX q (a, b, c, d, e)) yi) (a, b, c, d, e)).2 = false := by rw [hm]; simp
    simp only [Bool.not_true, cond_false, jp _ (Nat.le_trans hP2.len (by decide)) (Int.le_trans hP2.sum (by decide)), Option.bind_some]
    have hput := yx.eq_1 q t (a, b, c, d, e)
    rw [if_neg hnm] at hput
    have h3 : (bif decide ((yX q (a, b, c, d, e) : Int) > 0) then some (((List.length (yF (zk (t.getD (yX q (a, b, c, d, e)) yi) (a, b, c, d, e)).1) : Nat) : Int) == 0) else some false) = some (decide (0 < yX q (a, b, c, d, e) ∧ (yF (zk (t.getD (yX q (a, b, c, d, e)) yi) (a, b, c, d, e)).1).length = 0)) := by
     by_cases i0 : 0 < yX q (a, b, c, d, e)
     ·rw [decide_eq_true (show (yX q (a, b, c, d, e) : Int) > 0 by omega), cond_true]
      congr 1
      by_cases i1 : (yF (zk (t.getD (yX q (a, b, c, d, e)) yi) (a, b, c, d, e)).1).length = 0
      ·rw [decide_eq_true ⟨i0, i1⟩]
       exact beq_iff_eq.2 (by omega)
      ·rw [decide_eq_false (fun hh => i1 hh.2)]
       exact beq_eq_false_iff_ne.2 (by omega)
     ·rw [decide_eq_false (show ¬ (yX q (a, b, c, d, e) : Int) > 0 by omega), decide_eq_false (fun hh => i0 hh.1)]
      rfl
    rw [h3]
    simp only [Option.bind_some]
    by_cases hz : 0 < yX q (a, b, c, d, e) ∧ (yF (zk (t.getD (yX q (a, b, c, d, e)) yi) (a, b, c, d, e)).1).length = 0
    ·rw [if_pos hz] at hput
     rw [decide_eq_true hz, cond_true, Kg q t _ 1 _ _ (by omega) (by decide) (by omega) (by omega) (by omega) (by omega) (by simp) (by simp)]
     simp only [Option.bind_some, Int.toNat_natCast]
     exact hfin _ hput.symm
    ·rw [if_neg hz] at hput
     rw [decide_eq_false hz, cond_false, if_pos (by omega), if_pos (by omega)]
     exact hfin _ hput.symm
end Go.Proofs.YtjllpipmaejeoaaGreat.Pl
namespace Go.Proofs.YtjllpipmaejeoaaGreat.Pl
open Go.Proofs.YtjllpipmaejeoaaGreat.R Go.Proofs.YtjllpipmaejeoaaGreat.XR
theorem y1b (a : y7) : wA a a = false := by
 cases h : wA a a with
 | false => rfl
 | true =>
  rw [vk] at h
  omega
theorem y6T : ∀ {a b : List y7}, srt a → srt b → (∀ x, x ∈ a ↔ x ∈ b) → a = b
 | [], [], _, _, _ => rfl
 | [], y :: b, _, _, h => absurd ((h y).2 (by simp)) (by simp)
 | x :: a, [], _, _, h => absurd ((h x).1 (by simp)) (by simp)
 | x :: a, y :: b, ha, hb, h => by
  obtain ⟨ha1, ha2⟩ := List.pairwise_cons.1 ha
  obtain ⟨hb1, hb2⟩ := List.pairwise_cons.1 hb
  have hxy : x = y := by
   rcases List.mem_cons.1 ((h x).1 (by simp)) with e | h1
   ·exact e
   ·rcases List.mem_cons.1 ((h y).2 (by simp)) with e | h2
    ·exact e.symm
    ·have := y0r (hb1 x h1) (ha1 y h2)
     rw [y1b] at this
     cases this
  subst hxy
  rw [y6T ha2 hb2 fun z => ?_]
  constructor
  ·intro hz
   rcases List.mem_cons.1 ((h z).1 (by simp [hz])) with rfl | h1
   ·have := ha1 z hz
    rw [y1b] at this
    cases this
   ·exact h1
  ·intro hz
   rcases List.mem_cons.1 ((h z).2 (by simp [hz])) with rfl | h1
   ·have := hb1 z hz
    rw [y1b] at this
    cases this
   ·exact h1
theorem Qo {c k : y7} (h : wA c k = true) : ZY c k = false := by
 cases hs : ZY c k with
 | false => rfl
 | true =>
  rw [vk] at h
  rw [Yx] at hs
  omega
theorem VS {k x : y7} : ∀ {l : List y7}, x ∈ Yb l k ↔ x = k ∨ (x ∈ l ∧ ZY x k = false) := by
 intro l
 rw [kv]
 induction l with
 | nil => simp [y73]
 | cons c r ih =>
  rw [y73]
  split
  ·rename_i hl
   have := Qo hl
   simp only [List.mem_cons, ih]
   constructor
   ·rintro (rfl | rfl | ⟨h1, h2⟩)
    ·exact .inr ⟨.inl rfl, this⟩
    ·exact .inl rfl
    ·exact .inr ⟨.inr h1, h2⟩
   ·rintro (rfl | ⟨rfl | h1, h2⟩)
    ·exact .inr (.inl rfl)
    ·exact .inl rfl
    ·exact .inr (.inr ⟨h1, h2⟩)
  ·simp only [List.mem_cons, List.mem_filter, Bool.not_eq_true']
theorem y1c {a b : y7} : ZY a b = ZY b a := by
 cases h : ZY b a with
 | true => rw [Yx] at h ⊢; exact ⟨h.1.symm, h.2.symm⟩
 | false =>
  cases h2 : ZY a b with
  | false => rfl
  | true =>
   rw [Yx] at h2
   rw [Yx.2 ⟨h2.1.symm, h2.2.symm⟩] at h
   cases h
theorem yc0 {a b c : y7} (h1 : ZY a b = true) (h2 : ZY b c = true) : ZY a c = true := by
 rw [Yx] at *
 exact ⟨h1.1.trans h2.1, h1.2.trans h2.2⟩
theorem K1 {x : y7} : ∀ {b a : List y7}, srt b → (x ∈ YJ a b ↔ x ∈ b ∨ (x ∈ a ∧ ∀ y ∈ b, ZY x y = false))
 | [], a, _ => by simp [YJ]
 | c :: b, a, h => by
  obtain ⟨h1, h2⟩ := List.pairwise_cons.1 h
  have := K1 (x := x) (b := b) (a := Yb a c) h2
  rw [show YJ a (c :: b) = YJ (Yb a c) b from rfl, this, VS]
  constructor
  ·rintro (h3 | ⟨rfl | ⟨h3, h4⟩, h5⟩)
   ·exact .inl (by simp [h3])
   ·exact .inl (by simp)
   ·exact .inr ⟨h3, fun y hy => by
     rcases List.mem_cons.1 hy with rfl | hy
     ·exact h4
     ·exact h5 y hy⟩
  ·rintro (h3 | ⟨h3, h4⟩)
   ·rcases List.mem_cons.1 h3 with rfl | h3
    ·exact .inr ⟨.inl rfl, fun y hy => Qo (h1 y hy)⟩
    ·exact .inl h3
   ·exact .inr ⟨.inr ⟨h3, h4 c (by simp)⟩, fun y hy => h4 y (by simp [hy])⟩
theorem ydI {a b : List y7} (ha : srt a) (hb : srt b) (k : y7) : YJ a (Yb b k) = Yb (YJ a b) k := by
 refine y6T (Vv _ _ ha) (wR k (Vv _ _ ha)) fun x => ?_
 rw [K1 (wR k hb), VS, VS, K1 hb]
 constructor
 ·rintro ((rfl | ⟨h1, h2⟩) | ⟨h1, h2⟩)
  ·exact .inl rfl
  ·exact .inr ⟨.inl h1, h2⟩
  ·have hk := h2 k (VS.2 (.inl rfl))
   refine .inr ⟨.inr ⟨h1, fun y hy => ?_⟩, hk⟩
   cases hy2 : ZY y k with
   | false => exact h2 y (VS.2 (.inr ⟨hy, hy2⟩))
   | true =>
    cases hxy : ZY x y with
    | false => rfl
    | true => rw [yc0 hxy hy2] at hk; cases hk
 ·rintro (rfl | ⟨h1 | ⟨h1, h2⟩, h3⟩)
  ·exact .inl (.inl rfl)
  ·exact .inl (.inr ⟨h1, h3⟩)
  ·refine .inr ⟨h1, fun y hy => ?_⟩
   rcases VS.1 hy with rfl | ⟨hy, _⟩
   ·exact h3
   ·exact h2 y hy
theorem wv {x : y7} {l : List y7} : x ∈ kt l ↔ x ∈ l ∧ x.2.2.1 ≠ 0 := by
 rw [VQ, List.mem_filter]
 simp
theorem yfw {l : List y7} (h : srt l) (k : y7) : kt (Yb (kt l) k) = kt (Yb l k) := by
 refine y6T (vm (wR k (vm h))) (vm (wR k h)) fun x => ?_
 rw [wv, wv, VS, VS, wv]
 constructor
 ·rintro ⟨rfl | ⟨⟨h1, h2⟩, h3⟩, h4⟩
  ·exact ⟨.inl rfl, h4⟩
  ·exact ⟨.inr ⟨h1, h3⟩, h4⟩
 ·rintro ⟨rfl | ⟨h1, h3⟩, h4⟩
  ·exact ⟨.inl rfl, h4⟩
  ·exact ⟨.inr ⟨⟨h1, h4⟩, h3⟩, h4⟩
theorem y3G (l : List y7) (h : ∀ x ∈ l, x.2.2.1 ≠ 0) : kt l = l := by
 rw [VQ, List.filter_eq_self]
 intro x hx
 simpa using h x hx
theorem yaT (a b : List y7) : kt (a ++ b) = kt a ++ kt b := by
 rw [VQ, VQ, VQ, List.filter_append]
theorem Qp {n : List y9} {x : y7} (h : x ∈ yF n) : x.2.2.1 ≠ 0 := (wv.1 h).2
theorem ydJ (k : y7) {C : List y7} (hC : ∀ x ∈ C, wA k x = true) : ∀ {A B : List y7}, (∀ x ∈ A, wA x k = true) → Yb (A ++ B ++ C) k = A ++ Yb B k ++ C
 | a :: A, B, hA => by
  have := ydJ k hC (A := A) (B := B) fun x hx => hA x (by simp [hx])
  rw [kv] at *
  rw [List.cons_append, List.cons_append, y73, if_pos (hA a (by simp)), this, kv]
  rfl
 | [], B, _ => by
  rw [kv, kv, List.nil_append, List.nil_append]
  induction B with
  | nil =>
   cases C with
   | nil => rfl
   | cons c C =>
    rw [List.nil_append, show y73 ([] : List y7) k = [k] from rfl, y73, if_neg, List.filter_eq_self.2]
    ·rfl
    ·intro x hx
     rw [y1c, Qo (hC x hx)]
     rfl
    ·intro h
     have := y0r h (hC c (by simp))
     rw [y1b] at this
     cases this
  | cons b B ih =>
   rw [List.cons_append, y73, y73]
   split
   ·rw [ih]
    rfl
   ·rw [← List.cons_append, List.filter_append, List.cons_append]
    congr 2
    rw [List.filter_eq_self]
    intro x hx
    rw [y1c, Qo (hC x hx)]
    rfl
def yeh (n : List y9) : List y7 := n.foldl YJ []
theorem yaU (n : List y9) : srt (yeh n) := y3x n [] List.Pairwise.nil
theorem yaV (n : List y9) : yF n = kt (yeh n) := rfl
theorem y8b {s : List y7} (h : wQ s = true) : srt s := by
 unfold wQ at h
 simp only [Bool.and_eq_true, Bool.not_eq_true', decide_eq_true_eq] at h
 have step : ∀ j : Nat, (hj : j + 1 < s.length) → wA s[j] s[j + 1] = true := fun j hj => by
  have := WI yH s 0 h.2.1 (j + 1) hj
  unfold JM at this
  rw [show ((0 : Int) + ((j + 1 : Nat) : Int) - 1).toNat = j by omega, zZ _ _ _ (by omega), zZ _ _ _ hj] at this
  simp only [Bool.and_eq_false_iff, Bool.not_eq_false', decide_eq_false_iff_not] at this
  rcases this with h1 | h1
  ·omega
  ·exact h1
 refine List.pairwise_iff_getElem.2 fun i j hi hj hij => ?_
 obtain ⟨d, rfl⟩ : ∃ d, j = i + 1 + d := ⟨j - (i + 1), by omega⟩
 induction d with
 | zero => exact step i hj
 | succ d ih => exact y0r (ih (by omega) (by omega)) (step (i + 1 + d) hj)
theorem wU {l : List y7} (h : srt l) (hl : ∀ x ∈ l, x.2.2.1 ≠ 0) : yF (yR l) = l := by
 unfold yR
 split
 ·rename_i h0
  rw [List.length_eq_zero_iff.1 h0]
  rfl
 ·show kt (YJ [] l) = l
  rw [show YJ [] l = l from y6T (Vv l [] List.Pairwise.nil) h fun x => by rw [K1 h]; simp]
  exact y3G l hl
theorem y2L (n : List y9) (s : y9) : yeh (n ++ [s]) = YJ (yeh n) s := by
 unfold yeh
 rw [List.foldl_append]
 rfl
theorem y9M {n : List y9} (k : y7) (hn : ∀ s ∈ n, wQ s = true) : yF (wh n k) = Ya n k := by
 rw [yaV]
 unfold Ya
 rw [yaV, yfw (yaU n)]
 congr 1
 unfold wh
 split
 ·rename_i h
  obtain ⟨n0, hn0⟩ : ∃ n0 : List y9, n = n0 ++ [JJ n] := by
   refine ⟨n.take (n.length - 1), ?_⟩
   unfold JJ
   rw [zZ _ _ _ (by omega)]
   have e := List.take_append_drop (n.length - 1) n
   rw [List.drop_eq_getElem_cons (by omega), List.drop_eq_nil_of_le (by omega)] at e
   exact e.symm
  have hlast := y8b (hn _ (y3z h.1))
  have e1 : n.set (n.length - 1) (Yb (JJ n) k) = n0 ++ [Yb (JJ n) k] := by
   generalize JJ n = L at *
   rw [hn0, List.length_append, List.set_append_right _ _ (by simp)]
   simp
  rw [e1, y2L, ydI (yaU n0) hlast k, ← y2L, ← hn0]
 ·rw [y2L]
  rfl
theorem yaW (n : List y9) (k : y7) : srt (Ya n k) := vm (wR k (Vw n))
theorem y3H {n : List y9} {k x : y7} (h : x ∈ Ya n k) : x.2.2.1 ≠ 0 := (wv.1 h).2
theorem y8c {n : List y9} (k : y7) (hn : ∀ s ∈ n, wQ s = true) (h : (zk n k).2 = true) : yF (zk n k).1 = Ya n k := by
 unfold zk at h ⊢
 split
 ·exact y9M k hn
 ·rename_i h1
  rw [if_neg h1] at h
  split
  ·rename_i h2
   rw [if_pos h2] at h
   cases h
  ·rename_i h2
   rw [if_neg h2] at h
   split
   ·exact wU (yaW n k) fun x hx => y3H hx
   ·rename_i h3
    rw [if_neg h3] at h
    cases h
theorem yvs (t : List y0) : ∀ s : List y7, t.foldl WH s = s ++ t.flatMap yF := by
 induction t with
 | nil => intro s; simp
 | cons n t ih =>
  intro s
  rw [List.foldl_cons, ih]
  simp [WH]
theorem vo (t : List y0) : yu t = t.flatMap yF := by
 unfold yu
 rw [yvs]
 rfl
theorem Yp (a b : List y0) : yu (a ++ b) = yu a ++ yu b := by
 rw [vo, vo, vo, List.flatMap_append]
theorem kN (n : y0) : yu [n] = yF n := by
 rw [vo]
 simp
theorem y6U {t : List y0} {x : y7} : x ∈ yu t ↔ ∃ n ∈ t, x ∈ yF n := by
 rw [vo, List.mem_flatMap]
theorem y1d {t : List y0} {x : y7} (h : x ∈ yu t) : x.2.2.1 ≠ 0 := by
 obtain ⟨n, _, hx⟩ := y6U.1 h
 exact Qp hx
theorem Vy {A : Type} (d : A) (t : List A) (i : Nat) (h : i < t.length) : t = t.take i ++ ([t.getD i d] ++ t.drop (i + 1)) := by
 have e := List.take_append_drop i t
 rw [List.drop_eq_getElem_cons h] at e
 rw [zZ _ _ _ h]
 exact e.symm
theorem y8d : ∀ (m : Nat) (q : List Int) (t : List y0), srt (yu t) → yu (JN m q t).2 = yu t
 | 0, _, _, _ => rfl
 | m + 1, q, t, h => by
  rw [JN]
  split
  ·rfl
  ·rename_i hp
   have hs : 0 ≤ yJ t 0 ∧ yJ t 0 + 2 ≤ (t.length : Int) := by
    rcases y1F t 0 with h1 | ⟨h1, h2, _⟩
    ·omega
    ·exact ⟨h1, by omega⟩
   have e1 := Vy yi t (yJ t 0).toNat (by omega)
   have e2 := Vy yi (t.drop ((yJ t 0).toNat + 1)) 0 (by rw [List.length_drop]; omega)
   have e3 : (t.drop ((yJ t 0).toNat + 1)).getD 0 yi = t.getD (yJ t 0 + 1).toNat yi := by
    rw [List.getD_eq_getElem?_getD, List.getD_eq_getElem?_getD, List.getElem?_drop, show (yJ t 0).toNat + 1 + 0 = (yJ t 0 + 1).toNat by omega]
   rw [e3, List.take_zero, List.nil_append, List.drop_drop] at e2
   have hk : yu t = yu (t.take (yJ t 0).toNat) ++ ((yF (t.getD (yJ t 0).toNat yi) ++ yF (t.getD (yJ t 0 + 1).toNat yi)) ++ yu (t.drop ((yJ t 0).toNat + 2))) := by
    conv => lhs; rw [e1]
    rw [e2, Yp, Yp, Yp, kN, kN, List.append_assoc]
   have hx : srt (yF (t.getD (yJ t 0).toNat yi) ++ yF (t.getD (yJ t 0 + 1).toNat yi)) := by
    rw [hk] at h
    exact (List.pairwise_append.1 (List.pairwise_append.1 h).2.1).1
   have ht : yu (zc t (yJ t 0).toNat 2 [yR (yF (t.getD (yJ t 0).toNat yi) ++ yF (t.getD (yJ t 0 + 1).toNat yi))]) = yu t := by
    unfold zc
    rw [Yp, Yp, kN, wU hx (fun x hx => (List.mem_append.1 hx).elim Qp Qp), hk, List.append_assoc]
   rw [y8d m _ _ (by rw [ht]; exact h), ht]
end Go.Proofs.YtjllpipmaejeoaaGreat.Pl
namespace Go.Proofs.YtjllpipmaejeoaaGreat.Pl
open Go.Proofs.YtjllpipmaejeoaaGreat.R Go.Proofs.YtjllpipmaejeoaaGreat.XR
theorem QJ {A : Type} {p : A → Bool} : ∀ (l : List A) (i : Int), 0 ≤ i → zX p l i < 0 → ∀ a ∈ l, p a = false
 | [], _, _, _, a, ha => by simp at ha
 | b :: l, i, hi, h, a, ha => by
  rw [zX] at h
  split at h
  ·omega
  ·rename_i hb
   rcases List.mem_cons.1 ha with rfl | ha
   ·simpa using hb
   ·exact QJ l (i + 1) (by omega) h a ha
theorem y6V {k : y7} (h : Ym k = true) : QR k = 64 * k.1 + k.2.1 ∧ 0 ≤ k.1 ∧ k.1 ≤ 15 ∧ 1 ≤ k.2.1 ∧ k.2.1 ≤ 60 := by
 unfold Ym at h
 simp only [Bool.and_eq_true, zo] at h
 obtain ⟨⟨h1, h2⟩, ⟨h3, h4⟩, _⟩ := h
 refine ⟨?_, h1, h2, h3, h4⟩
 unfold QR
 rw [w64 (n := 64 * k.1) (by omega) (by omega), w64 (by omega) (by omega)]
theorem y3I {a b : y7} (ha : Ym a = true) (hb : Ym b = true) : wA a b = true ↔ QR a < QR b := by
 have h1 := y6V ha
 have h2 := y6V hb
 rw [vk, h1.1, h2.1]
 omega
structure Parts (q : List Int) (t : List y0) : Prop where
 len : q.length = t.length
 zero : q.getD 0 0 = 0
 pos : 0 < t.length
 ok : ∀ i, i < t.length → ∀ s ∈ (show List y9 from t.getD i yi), wQ s = true
 low : ∀ i, i + 1 < t.length → q.getD i 0 < q.getD (i + 1) 0
 key : ∀ i, i < t.length → ∀ x ∈ yF (t.getD i yi), Ym x = true ∧ q.getD i 0 ≤ QR x ∧ (i + 1 < t.length → QR x < q.getD (i + 1) 0)
theorem kw {q : List Int} {t : List y0} (h : zp q t = true) : Parts q t := by
 obtain ⟨f1, f2, f3, f4⟩ := Jj h
 unfold zp at h
 simp only [Bool.and_eq_true, Bool.not_eq_true', decide_eq_true_eq, zo, beq_iff_eq] at h
 obtain ⟨_, _, h0, h3, _⟩ := h
 have hb : ∀ i, i < t.length → ydC q i = false ∧ y4a q i (t.getD i yi) = true := fun i hi => by
  have := WI yi t 0 h3 i hi
  unfold V0 at this
  simp only [Bool.or_eq_false_iff, Bool.not_eq_false'] at this
  rw [show (0 : Int) + (i : Int) = i by omega] at this
  exact this
 have hmem : ∀ i, i < t.length → t.getD i yi ∈ t := fun i hi => by
  rw [zZ _ _ _ hi]
  exact List.getElem_mem _
 have hset : ∀ i, i < t.length → ∀ s ∈ (show List y9 from t.getD i yi), wQ s = true := fun i hi s hs => (y13 (f4 _ (hmem i hi))).2 s hs
 refine ⟨f1, h0, by omega, hset, fun i hi => ?_, fun i hi x hx => ?_⟩
 ·have := (hb (i + 1) hi).1
  unfold ydC at this
  simp only [Bool.and_eq_false_iff, decide_eq_false_iff_not] at this
  rcases this with h1 | h1
  ·omega
  ·rw [show (((i + 1 : Nat) : Int) - 1).toNat = i by omega, show (((i + 1 : Nat) : Int)).toNat = i + 1 by omega] at h1
   omega
 ·obtain ⟨c, hc, hxc⟩ := y14 hx
  refine ⟨(y2J (hset i hi c hc)).2 x hxc, ?_⟩
  have h1 := (hb i hi).2
  unfold y4a at h1
  simp only [Bool.and_eq_true, Bool.not_eq_true'] at h1
  obtain ⟨_, h2⟩ := Kd _ _ 0 h1.2.2 c hc
  unfold y9G at h2
  obtain ⟨_, h3⟩ := Kd _ _ 0 h2 x hxc
  unfold yhm at h3
  simp only [Bool.or_eq_false_iff, decide_eq_false_iff_not, Bool.and_eq_false_iff] at h3
  rw [show ((i : Nat) : Int).toNat = i by omega, show (((i : Nat) : Int) + 1).toNat = i + 1 by omega] at h3
  refine ⟨by omega, fun h4 => ?_⟩
  rcases h3.2 with h5 | h5 <;> omega
section
variable {q : List Int} {t : List y0} (h : Parts q t)
include h
theorem Parts.lows : ∀ (d i : Nat), i + 1 + d < t.length → q.getD i 0 < q.getD (i + 1 + d) 0
 | 0, i, hi => h.low i hi
 | d + 1, i, hi => by
  have h1 := Parts.lows d i (by omega)
  have h2 := h.low (i + 1 + d) (by omega)
  rw [show i + 1 + (d + 1) = i + 1 + d + 1 by omega]
  omega
theorem Parts.apart {i j : Nat} (hij : i < j) (hj : j < t.length) : ∀ x ∈ yF (t.getD i yi), QR x < q.getD j 0 := fun x hx => by
 obtain ⟨_, _, h3⟩ := h.key i (by omega) x hx
 have h3 := h3 (by omega)
 by_cases e : j = i + 1
 ·rw [e]
  exact h3
 ·have := h.lows (j - (i + 1) - 1) (i + 1) (by omega)
  rw [show i + 1 + 1 + (j - (i + 1) - 1) = j by omega] at this
  omega
theorem Parts.srt : srt (yu t) := by
 rw [vo]
 refine List.pairwise_flatMap.2 ⟨fun n hn => Vw n, List.pairwise_iff_getElem.2 fun i j hi hj hij x hx y hy => ?_⟩
 rw [← zZ yi t i hi] at hx
 rw [← zZ yi t j hj] at hy
 obtain ⟨kx, _⟩ := h.key i hi x hx
 obtain ⟨ky, ly, _⟩ := h.key j hj y hy
 rw [y3I kx ky]
 have := h.apart hij hj x hx
 omega
omit h in
theorem yaX (q : List Int) (sp : Int) : ∀ (n : Nat) (j : Nat), wE q sp n = (j : Int) → q.getD j 0 ≤ sp ∧ j < n ∧ ∀ i, j < i → i < n → sp < q.getD i 0
 | 0, j, h => by
  rw [wE] at h
  omega
 | n + 1, j, h => by
  rw [wE] at h
  split at h
  ·rename_i hq
   have : j = n := by omega
   subst this
   exact ⟨hq, Nat.lt_succ_self _, fun i h1 h2 => by omega⟩
  ·rename_i hq
   obtain ⟨h1, h2, h3⟩ := yaX q sp n j h
   refine ⟨h1, by omega, fun i h4 h5 => ?_⟩
   by_cases e : i = n
   ·subst e
    omega
   ·exact h3 i h4 (by omega)
theorem Parts.around {k : y7} (hk : Ym k = true) {j : Nat} (hj : wE q (jF k.1 k.2.1) q.length = (j : Int)) : (∀ x ∈ yu (t.take j), wA x k = true) ∧ ∀ x ∈ yu (t.drop (j + 1)), wA k x = true := by
 have hs : jF k.1 k.2.1 = QR k := rfl
 rw [hs] at hj
 obtain ⟨h1, h2, h3⟩ := yaX q (QR k) q.length j hj
 rw [h.len] at h2 h3
 refine ⟨fun x hx => ?_, fun x hx => ?_⟩
 ·obtain ⟨n, hn, hx⟩ := y6U.1 hx
  obtain ⟨i, hi, rfl⟩ := List.mem_iff_getElem.1 hn
  rw [List.length_take] at hi
  rw [List.getElem_take, ← zZ yi t i (by omega)] at hx
  have hx1 := (h.key i (by omega) x hx).1
  have := h.apart (show i < j by omega) h2 x hx
  rw [y3I hx1 hk]
  omega
 ·obtain ⟨n, hn, hx⟩ := y6U.1 hx
  obtain ⟨i, hi, rfl⟩ := List.mem_iff_getElem.1 hn
  rw [List.length_drop] at hi
  rw [List.getElem_drop, ← zZ yi t (j + 1 + i) (by omega)] at hx
  obtain ⟨hx1, hx2, _⟩ := h.key (j + 1 + i) (by omega) x hx
  have := h3 (j + 1 + i) (by omega) (by omega)
  rw [y3I hk hx1]
  omega
end
theorem y25 {q : List Int} {t : List y0} {k : y7} (h : zp q t = true) (hk : Ym k = true) : yu (yx q t k).2 = kt (Yb (yu t) k) := by
 have hP := kw h
 obtain ⟨e1, e2, e3⟩ := QI h hk
 obtain ⟨hA, hC⟩ := hP.around hk e1
 have hsp := Vy yi t (yX q k) e2
 have ht : yu t = yu (t.take (yX q k)) ++ yF (t.getD (yX q k) yi) ++ yu (t.drop (yX q k + 1)) := by
  conv => lhs; rw [hsp]
  rw [Yp, Yp, kN, List.append_assoc]
 have hgoal : kt (Yb (yu t) k) = yu (t.take (yX q k)) ++ (Ya (t.getD (yX q k) yi) k ++ yu (t.drop (yX q k + 1))) := by
  rw [ht, ydJ k hC hA, yaT, yaT, y3G _ (fun x hx => y1d hx), y3G _ (fun x hx => y1d hx), List.append_assoc]
  rfl
 have hok := hP.ok (yX q k) e2
 have hset : ∀ n' : y0, yu (t.set (yX q k) n') = yu (t.take (yX q k)) ++ (yF n' ++ yu (t.drop (yX q k + 1))) := fun n' => by
  rw [← y1E t (yX q k) n' e2]
  unfold zc
  rw [Yp, Yp, kN, List.append_assoc]
 rw [hgoal]
 unfold yx
 generalize hn : t.getD (yX q k) yi = n at *
 split
 ·unfold zc
  simp only
  have hw := yaW n k
  have e4 : ∀ m, yF (yR ((Ya n k).take m)) = (Ya n k).take m := fun m => wU (List.Pairwise.sublist (List.take_sublist _ _) hw) fun x hx => y3H (List.mem_of_mem_take hx)
  have e5 : ∀ m, yF (yR ((Ya n k).drop m)) = (Ya n k).drop m := fun m => wU (List.Pairwise.sublist (List.drop_sublist _ _) hw) fun x hx => y3H (List.mem_of_mem_drop hx)
  rw [Yp, Yp, show [yR ((Ya n k).take (WM (Ya n k))), yR ((Ya n k).drop (WM (Ya n k)))] = [yR ((Ya n k).take (WM (Ya n k)))] ++ [yR ((Ya n k).drop (WM (Ya n k)))] from rfl, Yp, kN, kN, e4, e5, List.take_append_drop, List.append_assoc]
 ·rename_i h1
  have h2 := y8c k hok (by simpa using h1)
  split
  ·rename_i h3
   rw [h2] at h3
   unfold zc
   simp only
   rw [List.length_eq_zero_iff.1 h3.2, Yp, Yp]
   simp [vo]
  ·rw [hset, h2]
theorem y9N {q : List Int} {t : List y0} {k : y7} (h : zp q t = true) (hk : Ym k = true) : srt (yu (yx q t k).2) := by
 rw [y25 h hk]
 exact vm (wR k (kw h).srt)
theorem vK {q : List Int} {t : List y0} {k : y7} (h : (yo q t k).2.2 = true) : zp q t = true ∧ Ym k = true ∧ zp (yo q t k).1 (yo q t k).2.1 = true ∧ yu (yo q t k).2.1 = kt (Yb (yu t) k) := by
 unfold yo at h ⊢
 split
 ·rename_i h1
  rw [if_pos h1] at h
  simp only [Bool.and_eq_true] at h1
  split
  ·rename_i h2
   exact ⟨h1.1, h1.2, h2, (y8d _ _ _ (y9N h1.1 h1.2)).trans (y25 h1.1 h1.2)⟩
  ·rename_i h2
   rw [if_neg h2] at h
   cases h
 ·rename_i h1
  rw [if_neg h1] at h
  cases h
theorem ydK {s : List y7} {b a : Int} (h : (wS s b a).2.2.2.2.2 = true) : ∃ c ∈ s, c.1 = b ∧ c.2.1 = a ∧ wS s b a = Qm c := by
 unfold wS at h ⊢
 split
 ·rename_i h1
  rw [if_pos h1] at h
  cases h
 ·rename_i h1
  rcases YS (atP b a) yH s 0 (Int.le_refl _) with h2 | ⟨h2, h3, h4⟩
  ·omega
  ·rw [Int.sub_zero] at h4
   unfold atP at h4
   simp only [Bool.and_eq_true, beq_iff_eq] at h4
   exact ⟨_, z4 yH s _ h2 (by omega), h4.1, h4.2, rfl⟩
theorem yfx {s : List y7} {b a : Int} (h : (wS s b a).2.2.2.2.2 = false) : ∀ c ∈ s, ¬ (c.1 = b ∧ c.2.1 = a) := by
 unfold wS at h
 split at h
 ·rename_i h1
  intro c hc hh
  have := QJ s 0 (Int.le_refl _) h1 c hc
  unfold atP at this
  rw [hh.1, hh.2] at this
  simp at this
 ·cases h
theorem y6W {s : List y7} (h : srt s) {x y : y7} (hx : x ∈ s) (hy : y ∈ s) (he : ZY x y = true) : x = y := by
 obtain ⟨i, hi, rfl⟩ := List.mem_iff_getElem.1 hx
 obtain ⟨j, hj, rfl⟩ := List.mem_iff_getElem.1 hy
 have hp := List.pairwise_iff_getElem.1 h
 rcases Nat.lt_trichotomy i j with h1 | h1 | h1
 ·rw [Qo (hp i j hi hj h1)] at he
  cases he
 ·subst h1
  rfl
 ·rw [y1c, Qo (hp j i hj hi h1)] at he
  cases he
theorem yfy (n : List y9) (m : Nat) (hm : m < n.length) : yeh (n.take (m + 1)) = YJ (yeh (n.take m)) (n.getD m yT) := by
 rw [List.take_succ, List.getElem?_eq_getElem hm, zZ _ _ _ hm]
 exact y2L _ _
theorem y1e {n : List y9} (hn : ∀ s ∈ n, wQ s = true) (b a : Int) : ∀ m, m ≤ n.length → ((j6 n b a m).2.2.2.2.2 = true → ∃ c ∈ kt (yeh (n.take m)), c.1 = b ∧ c.2.1 = a ∧ j6 n b a m = Qm c) ∧ ((j6 n b a m).2.2.2.2.2 = false → (∀ c ∈ kt (yeh (n.take m)), ¬ (c.1 = b ∧ c.2.1 = a)) ∧ j6 n b a m = y3y)
 | 0, _ => ⟨fun h => by simp [j6, y3y] at h, fun _ => ⟨fun c hc => by simp [yeh, kt] at hc, rfl⟩⟩
 | m + 1, hm => by
  obtain ⟨ih1, ih2⟩ := y1e hn b a m (by omega)
  have hs : wQ (n.getD m yT) = true := hn _ (by rw [zZ _ _ _ (by omega)]; exact List.getElem_mem _)
  have hsrt := y8b hs
  have hall := yfy n m (by omega)
  rw [j6, hall]
  generalize n.getD m yT = s at *
  cases hok : (wS s b a).2.2.2.2.2 with
  | true =>
   obtain ⟨c, hc, c1, c2, hce⟩ := ydK hok
   rw [if_pos rfl, hce]
   have hsame : ∀ c', c'.1 = b ∧ c'.2.1 = a → ZY c' c = true := fun c' h => Yx.2 ⟨h.1.trans c1.symm, h.2.trans c2.symm⟩
   by_cases h0 : c.2.2.1 = 0
   ·rw [if_pos (by simp [Qm, h0])]
    refine ⟨fun h => by simp [y3y] at h, fun _ => ⟨fun c' hc' hh => ?_, rfl⟩⟩
    obtain ⟨h1, h2⟩ := wv.1 hc'
    rcases (K1 hsrt).1 h1 with h3 | ⟨_, h3⟩
    ·rw [y6W hsrt h3 hc (hsame c' hh)] at h2
     exact h2 h0
    ·have := hsame c' hh
     rw [h3 c hc] at this
     cases this
   ·rw [if_neg (by simp [Qm, h0])]
    refine ⟨fun _ => ⟨c, wv.2 ⟨(K1 hsrt).2 (.inl hc), h0⟩, c1, c2, rfl⟩, fun h => by simp [Qm] at h⟩
  | false =>
   rw [if_neg (by simp)]
   have hno := yfx hok
   refine ⟨fun h => ?_, fun h => ⟨fun c hc hh => ?_, (ih2 h).2⟩⟩
   ·obtain ⟨c, hc, c1, c2, hce⟩ := ih1 h
    obtain ⟨h1, h2⟩ := wv.1 hc
    refine ⟨c, wv.2 ⟨(K1 hsrt).2 (.inr ⟨h1, fun y hy => ?_⟩), h2⟩, c1, c2, hce⟩
    cases hcy : ZY c y with
    | false => rfl
    | true =>
     rw [Yx] at hcy
     exact absurd ⟨hcy.1.symm.trans c1, hcy.2.symm.trans c2⟩ (hno y hy)
   ·obtain ⟨h1, h2⟩ := wv.1 hc
    rcases (K1 hsrt).1 h1 with h3 | ⟨h3, _⟩
    ·exact hno c h3 hh
    ·exact (ih2 h).1 c (wv.2 ⟨h3, h2⟩) hh
theorem y3J {q : List Int} {t : List y0} (h : zp q t = true) {b a : Int} (hb : 0 ≤ b ∧ b ≤ 15) (ha : 1 ≤ a ∧ a ≤ 60) :
  ((YL q t b a).2.2.2.2.2 = true → ∃ c ∈ yu t, c.1 = b ∧ c.2.1 = a ∧ YL q t b a = Qm c) ∧ ((YL q t b a).2.2.2.2.2 = false → ∀ c ∈ yu t, ¬ (c.1 = b ∧ c.2.1 = a)) := by
 have hP := kw h
 have hk : Ym (b, a, 0, 0, 0) = true := by
  unfold Ym
  simp only [zo.2 hb, zo.2 ha]
  rfl
 obtain ⟨e1, e2, e3⟩ := QI h hk
 obtain ⟨hA, hC⟩ := hP.around hk e1
 have hsp := Vy yi t (yX q (b, a, 0, 0, 0)) e2
 have ht : yu t = yu (t.take (yX q (b, a, 0, 0, 0))) ++ (yF (t.getD (yX q (b, a, 0, 0, 0)) yi) ++ yu (t.drop (yX q (b, a, 0, 0, 0) + 1))) := by
  conv => lhs; rw [hsp]
  rw [Yp, Yp, kN]
 have hrd : yd t ((yX q (b, a, 0, 0, 0) : Nat) : Int) = t.getD (yX q (b, a, 0, 0, 0)) yi := rfl
 have hte : YL q t b a = j6 (t.getD (yX q (b, a, 0, 0, 0)) yi) b a (List.length (show List y9 from t.getD (yX q (b, a, 0, 0, 0)) yi)) := by
  unfold YL
  rw [show wE q (jF b a) q.length = ((yX q (b, a, 0, 0, 0) : Nat) : Int) from e1, if_pos (zo.2 ⟨by omega, by omega⟩), hrd]
 have hn := hP.ok _ e2
 obtain ⟨n1, n2⟩ := y1e hn b a _ (Nat.le_refl _)
 rw [List.take_length] at n1 n2
 rw [hte, ht]
 refine ⟨fun hh => ?_, fun hh c hc hcc => ?_⟩
 ·obtain ⟨c, hc, r⟩ := n1 hh
  exact ⟨c, List.mem_append_right _ (List.mem_append_left _ hc), r⟩
 ·have hs : ZY c (b, a, 0, 0, 0) = true := Yx.2 hcc
  rcases List.mem_append.1 hc with hc | hc
  ·rw [Qo (hA c hc)] at hs
   cases hs
  ·rcases List.mem_append.1 hc with hc | hc
   ·exact (n2 hh).1 c hc hcc
   ·rw [y1c, Qo (hC c hc)] at hs
    cases hs
end Go.Proofs.YtjllpipmaejeoaaGreat.Pl
