/- Base, Loops, Keys, Pool, Tree, Seen, Rng, Walk, See, Oks, Whole, Trees, Names, PoolOk, PoolOk2, PoolOk3, PutPool0, SetSrt, Join, CopyPool, Next, NodePut, JoinT, TreePut, KeySem, KeySem2, CutAge, Calm, Prune, Prune2, Draw, Crc, ReadW, Four, Crc1, Draw2. No condition. -/
import Derived.Test.YtgediecndaheiaaGreatDS1
import Derived.Laws.BitsLemmas
set_option linter.all false
namespace Go.Proofs.YtgediecndaheiaaGreat.Pl
open Go.Proofs.YtgediecndaheiaaGreat.R Go.Proofs.YtgediecndaheiaaGreat.XS
theorem yli {T R : Type} {step : (T → Option R) → T → Option R} (μ : T → Nat) (inv : T → Prop) (G : T → Option R)
  (h : ∀ again t, inv t → (∀ t', inv t' → μ t' < μ t → again t' = G t') → step again t = G t) : ∀ (n : Nat) (t : T), inv t → μ t < n → zV step n t = G t := by
 intro n
 induction n with
 | zero => intro t _ hn; omega
 | succ n ih =>
  intro t ht hn
  rw [zV]
  exact h _ t ht fun t' ht' hlt => ih t' ht' (by omega)
theorem ZD {T R : Type} {step : (T → Option R) → T → Option R} (μ : T → Nat) (inv : T → Prop) (G : T → Option R)
  (h : ∀ again t, inv t → (∀ t', inv t' → μ t' < μ t → again t' = G t') → step again t = G t) (t : T) (ht : inv t) (hn : μ t < 18446744073709551616) : zV step Yg t = G t :=
 yli μ inv G h Yg t ht (by rw [y12]; exact hn)
theorem w64 {n : Int} (h0 : -9223372036854775808 ≤ n) (h1 : n ≤ 9223372036854775807) : Go.IntKind.wrap .i64 n = n := by
 rw [IntKind.wrap_i64]
 omega
def inR (x a b : Int) : Bool := decide (a ≤ x) && decide (x ≤ b)
theorem zp {x a b : Int} : inR x a b = true ↔ a ≤ x ∧ x ≤ b := by simp [inR]
theorem ydc (n : Nat) (h : n < 9223372036854775808) : IntKind.i64.wrap (n : Int) = n := by
 rw [IntKind.wrap_i64]
 omega
theorem yaL (x : Int) : ((BitVec.ofInt 64 x).toNat : Int) = x % 18446744073709551616 := by
 rw [BitVec.toNat_ofInt]
 omega
theorem ygX (x : Int) (m : Nat) (j : Nat) (hj : j < 63) (hm : m = 2 ^ j - 1) : bits .and .i64 x m = x % (2 ^ j : Nat) := by
 have hd : (2 ^ j : Nat) ∣ 18446744073709551616 := by
  have : (18446744073709551616 : Nat) = 2 ^ j * 2 ^ (64 - j) := by rw [← Nat.pow_add, show j + (64 - j) = 64 by omega]
  rw [this]
  exact Nat.dvd_mul_right _ _
 have hlt : m < 18446744073709551616 := by
  have : 2 ^ j ≤ 2 ^ 64 := Nat.pow_le_pow_right (by omega) (by omega)
  have h1 : 0 < 2 ^ j := Nat.two_pow_pos j
  omega
 have hj63 : 2 ^ j < 9223372036854775808 := by
  have : 2 ^ j ≤ 2 ^ 62 := Nat.pow_le_pow_right (by omega) (by omega)
  omega
 show IntKind.i64.wrap ((BitVec.ofInt 64 x &&& BitVec.ofInt 64 (m : Int)).toNat : Int) = _
 rw [BitVec.toNat_and, BitVec.ofInt_natCast, BitVec.toNat_ofNat, Nat.mod_eq_of_lt hlt, hm, Nat.and_two_pow_sub_one_eq_mod]
 have h2 := Nat.mod_lt (BitVec.ofInt 64 x).toNat (Nat.two_pow_pos j)
 rw [ydc _ (by omega), Int.natCast_emod, yaL]
 exact Int.emod_emod_of_dvd _ (Int.ofNat_dvd.2 hd)
theorem yrt (x : Int) : bits .and .i64 x 255 = x % 256 := ygX x 255 8 (by omega) (by decide)
def isBytes (l : List Int) : Prop := ∀ x ∈ l, 0 ≤ x ∧ x < 256
def by_ (l : List Int) (i : Int) : Int := l.getD i.toNat 0
theorem ybV {l : List Int} (h : isBytes l) (i : Int) : 0 ≤ by_ l i ∧ by_ l i < 256 := by
 unfold by_
 rw [List.getD_eq_getElem?_getD]
 cases hl : l[i.toNat]? with
 | none => simp
 | some x => exact h x (List.mem_of_getElem? hl)
end Go.Proofs.YtgediecndaheiaaGreat.Pl
namespace Go.Proofs.YtgediecndaheiaaGreat.Pl
open Go.Proofs.YtgediecndaheiaaGreat.R Go.Proofs.YtgediecndaheiaaGreat.XS
theorem jV {T R : Type} {step : (T → Option R) → T → Option R} (μ : T → Nat) (inv : T → Prop) (Q : T → Option R → Prop)
  (h : ∀ again t, inv t → (∀ t', inv t' → μ t' < μ t → Q t' (again t')) → Q t (step again t)) (t : T) (ht : inv t) (hn : μ t < 18446744073709551616) : Q t (zV step Yg t) := by
 have key : ∀ (n : Nat) (t : T), inv t → μ t < n → Q t (zV step n t) := by
  intro n
  induction n with
  | zero => intro t _ hn; omega
  | succ n ih =>
   intro t ht hn
   rw [zV]
   exact h _ t ht fun t' ht' hlt => ih t' ht' (by omega)
 exact key Yg t ht (by rw [y12]; exact hn)
theorem y7z {A : Type} (da : A) (l : List A) (i : Int) (h0 : 0 ≤ i) (h : i < l.length) : l.getD i.toNat da = l[i.toNat]'(by omega) := by
 rw [List.getD_eq_getElem?_getD, List.getElem?_eq_getElem (by omega)]
 rfl
theorem yI {A : Type} (da : A) (l : List A) (i : Int) (h0 : 0 ≤ i) (h : i < l.length) : l.getD i.toNat da ∈ l := by
 rw [y7z da l i h0 h]
 exact List.getElem_mem _
theorem wK {A : Type} (da : A) (l : List A) (i : Int) (h0 : 0 ≤ i) (h : i < l.length) : l.drop i.toNat = l.getD i.toNat da :: l.drop (i + 1).toNat := by
 rw [y7z da l i h0 h, show (i + 1).toNat = i.toNat + 1 by omega, ← List.drop_eq_getElem_cons]
def km {A : Type} (w : A → Int) (l : List A) : Int := l.foldr (fun a s => w a + s) 0
theorem Yi {A : Type} (w : A → Int) (a : A) (l : List A) : km w (a :: l) = w a + km w l := rfl
theorem y0q {A : Type} {w : A → Int} (hw : ∀ a, 0 ≤ w a) : ∀ {l : List A} {a : A}, a ∈ l → w a ≤ km w l ∧ 0 ≤ km w l
 | b :: l, a, h => by
  have hs : 0 ≤ km w l := by
   clear h
   induction l with
   | nil => exact Int.le_refl _
   | cons c l ih => rw [Yi]; have := hw c; omega
  rw [Yi]
  have := hw b
  rcases List.mem_cons.1 h with rfl | h
  ·omega
  ·have := (y0q hw h).1
   omega
theorem wX {A : Type} {w : A → Int} (hw : ∀ a, 0 ≤ w a) (l : List A) : 0 ≤ km w l := by
 induction l with
 | nil => exact Int.le_refl _
 | cons c l ih => rw [Yi]; have := hw c; omega
end Go.Proofs.YtgediecndaheiaaGreat.Pl
namespace Go.Proofs.YtgediecndaheiaaGreat.Pl
open Go.Proofs.YtgediecndaheiaaGreat.R Go.Proofs.YtgediecndaheiaaGreat.XS
theorem Ya {T A S R : Type} {step : (T → Option R) → T → Option R} (mk : Int → S → T) (k : S → Option R) (da : A) (g : S → A → S) (l : List A) (hl : l.length ≤ 1099511627776) (I : Nat → S → Prop)
  (h : ∀ again i s, 0 ≤ i → i < (l.length : Int) → I i.toNat s → step again (mk i s) = again (mk (i + 1) (g s (l.getD i.toNat da))) ∧ I (i.toNat + 1) (g s (l.getD i.toNat da)))
  (hd : ∀ again i s, ¬ i < (l.length : Int) → step again (mk i s) = k s) (s : S) (hs : I 0 s) : zV step Yg (mk 0 s) = k (l.foldl g s) := by
 have key : ∀ (n : Nat) (i : Int) (s : S), 0 ≤ i → i ≤ l.length → I i.toNat s → l.length - i.toNat < n → zV step n (mk i s) = k ((l.drop i.toNat).foldl g s) := by
  intro n
  induction n with
  | zero => intro i s _ _ _ hn; omega
  | succ n ih =>
   intro i s h0 h1 hI hn
   rw [zV]
   by_cases hi : i < (l.length : Int)
   ·obtain ⟨e, hI'⟩ := h (zV step n) i s h0 hi hI
    have e1 : (i + 1).toNat = i.toNat + 1 := by omega
    rw [e, ih (i + 1) _ (by omega) (by omega) (by rw [e1]; exact hI') (by omega), wK da l i h0 hi]
    rfl
   ·rw [hd _ i s hi, List.drop_of_length_le (by omega)]
    rfl
 have := key Yg 0 s (by omega) (by omega) hs (by rw [y12]; simp; omega)
 simpa using this
def wY (c k : y7) : Bool := if c.1 < k.1 then true else if c.1 = k.1 then decide (c.2.1 < k.2.1) else false
def jW (c k : y7) : Bool := decide (c.1 = k.1) && decide (c.2.1 = k.2.1)
theorem y03 (a1 a2 a3 a4 a5 b1 b2 b3 b4 b5 : Int) : jZ (a1, a2, a3, a4, a5, b1, b2, b3, b4, b5) = some (wY (a1, a2, a3, a4, a5) (b1, b2, b3, b4, b5)) := by
 unfold jZ wY
 by_cases h : a1 = b1
 ·subst h
  simp
 ·have hb : (a1 == b1) = false := by simpa using h
  have hb' : (a1 != b1) = true := by simpa using h
  by_cases h2 : a1 < b1 <;> simp [h, h2, hb, hb']
theorem y04 (a1 a2 a3 a4 a5 b1 b2 b3 b4 b5 : Int) : J1 (a1, a2, a3, a4, a5, b1, b2, b3, b4, b5) = some (wY (a1, a2, a3, a4, a5) (b1, b2, b3, b4, b5)) := by
 unfold J1 wY
 by_cases h : a1 = b1
 ·subst h
  simp
 ·have hb : (a1 == b1) = false := by simpa using h
  have hb' : (a1 != b1) = true := by simpa using h
  by_cases h2 : a1 < b1 <;> simp [h, h2, hb, hb']
theorem y2X (a1 a2 a3 a4 a5 b1 b2 b3 b4 b5 : Int) : ZR (a1, a2, a3, a4, a5, b1, b2, b3, b4, b5) = some (jW (a1, a2, a3, a4, a5) (b1, b2, b3, b4, b5)) := by
 unfold ZR jW
 have e1 : (a1 == b1) = decide (a1 = b1) := rfl
 have e2 : (a2 == b2) = decide (a2 = b2) := rfl
 simp only [e1, e2]
 cases decide (a1 = b1) <;> cases decide (a2 = b2) <;> rfl
theorem y2Y (a1 a2 a3 a4 a5 b1 b2 b3 b4 b5 : Int) : ZY (a1, a2, a3, a4, a5, b1, b2, b3, b4, b5) = some (jW (a1, a2, a3, a4, a5) (b1, b2, b3, b4, b5)) := by
 unfold ZY jW
 have e1 : (a1 == b1) = decide (a1 = b1) := rfl
 have e2 : (a2 == b2) = decide (a2 = b2) := rfl
 simp only [e1, e2]
 cases decide (a1 = b1) <;> cases decide (a2 = b2) <;> rfl
theorem ysl {n k : Nat} (h : n ≤ 1073741825) (hk : (1073741825 + k) * 40 < 140737488355328) : (n + k) * 40 < 140737488355328 := by omega
def J6 (k : y7) (s : Bool × List y7) (c : y7) : Bool × List y7 :=
 if s.1 = false ∧ wY c k = false then (true, if jW c k then s.2 ++ [k] else s.2 ++ [k] ++ [c]) else (s.1, if jW c k then s.2 else s.2 ++ [c])
def Yr (l : List y7) (k : y7) : List y7 :=
 let r := l.foldl (J6 k) (false, [])
 if r.1 then r.2 else r.2 ++ [k]
def pN (p : Bool) : Nat := if p then 1 else 0
theorem y4c (k : y7) (s : Bool × List y7) (c : y7) : (J6 k s c).2.length + pN s.1 ≤ s.2.length + 1 + pN (J6 k s c).1 ∧ pN (J6 k s c).1 ≤ 1 := by
 unfold J6 pN
 obtain ⟨p, o⟩ := s
 cases p <;> cases wY c k <;> cases jW c k <;> simp
theorem y0r (k : y7) : ∀ (l : List y7) (s : Bool × List y7), (l.foldl (J6 k) s).2.length + pN s.1 ≤ s.2.length + l.length + pN (l.foldl (J6 k) s).1
 | [], s => by simp
 | c :: l, s => by
  have h1 := (y4c k s c).1
  have h2 := y0r k l (J6 k s c)
  simp only [List.foldl_cons, List.length_cons] at h2 ⊢
  omega
theorem Wc (l : List y7) (k : y7) : (Yr l k).length ≤ l.length + 1 := by
 have h := y0r k l (false, [])
 unfold Yr
 simp only [pN, List.length_nil, Bool.false_eq_true, if_false] at h ⊢
 cases hr : (l.foldl (J6 k) (false, [])).1 with
 | true =>
  rw [hr] at h
  simp at h ⊢
  omega
 | false =>
  rw [hr] at h
  simp at h ⊢
  omega
theorem y2Z {R : Type} (k0 : Bool × Int × Int × Int × Int × Int × List y7 → Option R) (again : Ws → Option R) (l : List y7) (i : Int) (p : Bool) (a b c d e : Int) (o : List y7) (hl : l.length ≤ 1073741824) (h0 : 0 ≤ i) (h1 : i < (l.length : Int)) (ho : o.length ≤ 1073741825) :
  Z2 k0 again (l, p, i, a, b, c, d, e, o) = again (l, (J6 (a, b, c, d, e) (p, o) (l.getD i.toNat yL)).1, i + 1, a, b, c, d, e, (J6 (a, b, c, d, e) (p, o) (l.getD i.toNat yL)).2) := by
 have hw : Go.IntKind.wrap .i64 (i + 1) = i + 1 := w64 (by omega) (by omega)
 have c1 : (o.length + (0 + 1)) * 40 < 140737488355328 := ysl ho (by decide)
 have c2 : (o.length + (0 + 1) + (0 + 1)) * 40 < 140737488355328 := by rw [Nat.add_assoc]; exact ysl ho (by decide)
 obtain ⟨⟨x1, x2, x3, x4, x5⟩, hx⟩ : ∃ x, y6 l i = x := ⟨_, rfl⟩
 have hx' : l.getD i.toNat yL = (x1, x2, x3, x4, x5) := hx
 rw [hx']
 unfold Z2
 simp only [Bool.cond_eq_ite, decide_eq_true_eq, h0, h1, if_true, hw, hx, y03, y2X, Option.bind_some, List.length_append, List.length_cons, List.length_nil]
 unfold J6
 generalize wY (x1, x2, x3, x4, x5) (a, b, c, d, e) = q1
 generalize jW (x1, x2, x3, x4, x5) (a, b, c, d, e) = q2
 simp only [c1, c2, if_true]
 cases p <;> cases q1 <;> cases q2 <;> rfl
theorem y30 {R : Type} (k0 : Bool × Int × Int × Int × Int × Int × List y7 → Option R) (l : List y7) (a b c d e : Int) (hl : l.length ≤ 1073741824) :
  vw k0 (l, false, 0, a, b, c, d, e, []) = k0 ((l.foldl (J6 (a, b, c, d, e)) (false, [])).1, a, b, c, d, e, (l.foldl (J6 (a, b, c, d, e)) (false, [])).2) := by
 unfold vw
 refine Ya (step := Z2 k0) (fun (i : Int) (s : Bool × List y7) => (l, s.1, i, a, b, c, d, e, s.2)) (fun s => k0 (s.1, a, b, c, d, e, s.2)) yL (J6 (a, b, c, d, e)) l (by omega) (fun i s => s.2.length ≤ i + pN s.1) ?_ ?_ (false, []) (by simp)
 ·rintro again i ⟨p, o⟩ h0 h1 hI
  have hp : pN p ≤ 1 := by cases p <;> decide
  have hI' : o.length ≤ i.toNat + pN p := hI
  clear hI
  refine ⟨y2Z k0 again l i p a b c d e o hl h0 h1 (by omega), ?_⟩
  have ho := (y4c (a, b, c, d, e) (p, o) (l.getD i.toNat yL)).1
  show (J6 (a, b, c, d, e) (p, o) (l.getD i.toNat yL)).2.length ≤ i.toNat + 1 + pN (J6 (a, b, c, d, e) (p, o) (l.getD i.toNat yL)).1
  generalize (J6 (a, b, c, d, e) (p, o) (l.getD i.toNat yL)) = r at ho ⊢
  simp only at ho
  omega
 ·rintro again i ⟨p, o⟩ hi
  show Z2 k0 again (l, p, i, a, b, c, d, e, o) = _
  unfold Z2
  simp only [Bool.cond_eq_ite, decide_eq_true_eq, if_neg hi]
theorem Ko (l : List y7) (a b c d e : Int) (hl : l.length ≤ 1073741824) : zH (l, a, b, c, d, e) = some (Yr l (a, b, c, d, e)) := by
 have hlen := y0r (a, b, c, d, e) l (false, [])
 unfold zH Yr
 rw [y30 _ l a b c d e hl]
 generalize l.foldl (J6 (a, b, c, d, e)) (false, []) = r at hlen ⊢
 obtain ⟨q, o⟩ := r
 cases q with
 | true => rfl
 | false =>
  simp only [pN, List.length_nil, Bool.false_eq_true, if_false] at hlen
  simp only [Bool.not_false, cond_true, List.length_cons, List.length_nil, Bool.false_eq_true, if_false]
  rw [if_pos (by omega)]
theorem y31 {R : Type} (k0 : Bool × Int × Int × Int × Int × Int × List y7 → Option R) (again : WS → Option R) (l : List y7) (i : Int) (p : Bool) (a b c d e : Int) (o : List y7) (hl : l.length ≤ 1073741824) (h0 : 0 ≤ i) (h1 : i < (l.length : Int)) (ho : o.length ≤ 1073741825) :
  Z6 k0 again (p, l, (l.length : Int), i, a, b, c, d, e, o) = again ((J6 (a, b, c, d, e) (p, o) (l.getD i.toNat yL)).1, l, (l.length : Int), i + 1, a, b, c, d, e, (J6 (a, b, c, d, e) (p, o) (l.getD i.toNat yL)).2) := by
 have hw : Go.IntKind.wrap .i64 (i + 1) = i + 1 := w64 (by omega) (by omega)
 have c1 : (o.length + (0 + 1)) * 40 < 140737488355328 := ysl ho (by decide)
 have c2 : (o.length + (0 + 1) + (0 + 1)) * 40 < 140737488355328 := by rw [Nat.add_assoc]; exact ysl ho (by decide)
 obtain ⟨⟨x1, x2, x3, x4, x5⟩, hx⟩ : ∃ x, y6 l i = x := ⟨_, rfl⟩
 have hx' : l.getD i.toNat yL = (x1, x2, x3, x4, x5) := hx
 rw [hx']
 unfold Z6
 simp only [Bool.cond_eq_ite, decide_eq_true_eq, h0, h1, if_true, hw, hx, y04, y2Y, Option.bind_some, List.length_append, List.length_cons, List.length_nil]
 unfold J6
 generalize wY (x1, x2, x3, x4, x5) (a, b, c, d, e) = q1
 generalize jW (x1, x2, x3, x4, x5) (a, b, c, d, e) = q2
 simp only [c1, c2, if_true]
 cases p <;> cases q1 <;> cases q2 <;> rfl
theorem y32 {R : Type} (k0 : Bool × Int × Int × Int × Int × Int × List y7 → Option R) (l : List y7) (a b c d e : Int) (hl : l.length ≤ 1073741824) :
  vT k0 (false, l, (l.length : Int), 0, a, b, c, d, e, []) = k0 ((l.foldl (J6 (a, b, c, d, e)) (false, [])).1, a, b, c, d, e, (l.foldl (J6 (a, b, c, d, e)) (false, [])).2) := by
 unfold vT
 refine Ya (step := Z6 k0) (fun (i : Int) (s : Bool × List y7) => (s.1, l, (l.length : Int), i, a, b, c, d, e, s.2)) (fun s => k0 (s.1, a, b, c, d, e, s.2)) yL (J6 (a, b, c, d, e)) l (by omega) (fun i s => s.2.length ≤ i + pN s.1) ?_ ?_ (false, []) (by simp)
 ·rintro again i ⟨p, o⟩ h0 h1 hI
  have hp : pN p ≤ 1 := by cases p <;> decide
  have hI' : o.length ≤ i.toNat + pN p := hI
  clear hI
  refine ⟨y31 k0 again l i p a b c d e o hl h0 h1 (by omega), ?_⟩
  have ho := (y4c (a, b, c, d, e) (p, o) (l.getD i.toNat yL)).1
  show (J6 (a, b, c, d, e) (p, o) (l.getD i.toNat yL)).2.length ≤ i.toNat + 1 + pN (J6 (a, b, c, d, e) (p, o) (l.getD i.toNat yL)).1
  generalize (J6 (a, b, c, d, e) (p, o) (l.getD i.toNat yL)) = r at ho ⊢
  simp only at ho
  omega
 ·rintro again i ⟨p, o⟩ hi
  show Z6 k0 again (p, l, (l.length : Int), i, a, b, c, d, e, o) = _
  unfold Z6
  simp only [Bool.cond_eq_ite, decide_eq_true_eq, if_neg hi]
theorem VI (l : List y7) (a b c d e : Int) (hl : l.length ≤ 1073741824) : jz (l, a, b, c, d, e) = some (Yr l (a, b, c, d, e)) := by
 have hlen := y0r (a, b, c, d, e) l (false, [])
 unfold jz Yr
 rw [y32 _ l a b c d e hl]
 generalize l.foldl (J6 (a, b, c, d, e)) (false, []) = r at hlen ⊢
 obtain ⟨q, o⟩ := r
 cases q with
 | true => rfl
 | false =>
  simp only [pN, List.length_nil, Bool.false_eq_true, if_false] at hlen
  simp only [Bool.not_false, cond_true, List.length_cons, List.length_nil, Bool.false_eq_true, if_false]
  rw [if_pos (by omega)]
end Go.Proofs.YtgediecndaheiaaGreat.Pl
namespace Go.Proofs.YtgediecndaheiaaGreat.Pl
open Go.Proofs.YtgediecndaheiaaGreat.R Go.Proofs.YtgediecndaheiaaGreat.XS
def Qi (l : List yb) : Int := (List.length l : Int) + km (fun a : yb => (List.length a : Int)) l
theorem KC (l : List yb) : 0 ≤ Qi l := by
 have := wX (w := fun a : yb => (List.length a : Int)) (fun a => Int.natCast_nonneg _) l
 unfold Qi
 omega
end Go.Proofs.YtgediecndaheiaaGreat.Pl
namespace Go.Proofs.YtgediecndaheiaaGreat.Pl
open Go.Proofs.YtgediecndaheiaaGreat.R Go.Proofs.YtgediecndaheiaaGreat.XS
def Z7 (a b : List y7) : List y7 := b.foldl Yr a
theorem y0s : ∀ (b a : List y7), (Z7 a b).length ≤ a.length + b.length
 | [], a => by simp [Z7]
 | c :: b, a => by
  have h := y0s b (Yr a c)
  have h2 := Wc a c
  unfold Z7 at h ⊢
  simp only [List.foldl_cons, List.length_cons] at h ⊢
  omega
def Va (s : List y7) (c : y7) : List y7 := if c.2.2.1 = 0 then s else s ++ [c]
def K6 (l : List y7) : List y7 := l.foldl Va []
theorem y18 (s : List y7) (c : y7) : (Va s c).length ≤ s.length + 1 := by
 unfold Va
 split <;> simp
theorem y4d : ∀ (l s : List y7), (l.foldl Va s).length ≤ s.length + l.length
 | [], s => by simp
 | c :: l, s => by
  have h := y4d l (Va s c)
  have h2 := y18 s c
  simp only [List.foldl_cons, List.length_cons]
  omega
def VS (a : yb) : Int := (List.length a : Int)
theorem K7 (a : yb) : 0 ≤ VS a := Int.natCast_nonneg _
def yE (n : List yb) : List y7 := K6 (n.foldl Z7 [])
theorem y1H : ∀ (n : List yb) (s : List y7), ((n.foldl Z7 s).length : Int) ≤ s.length + km VS n
 | [], s => by simp [km]
 | c :: n, s => by
  have h := y1H n (Z7 s c)
  have h2 := y0s c s
  simp only [List.foldl_cons, Yi, VS]
  omega
theorem KD (n : List yb) : ((yE n).length : Int) ≤ km VS n := by
 have h := y4d (n.foldl Z7 []) []
 have h2 := y1H n []
 unfold yE K6
 simp only [List.length_nil] at h h2
 omega
theorem y1I (n : List yb) : km VS n ≤ Qi n := by
 show km (fun a : yb => (List.length a : Int)) n ≤ (List.length n : Int) + km (fun a : yb => (List.length a : Int)) n
 omega
def kn (s : List y7) (n : y0) : List y7 := s ++ yE n
def yq (t : List y0) : List y7 := t.foldl kn []
theorem y2h (a b : List y7) (h : a.length + b.length ≤ 1073741824) : Zb (a, b) = some (Z7 a b) := by
 unfold Zb Vp
 simp only [List.length_nil, Nat.zero_add, List.nil_append]
 rw [if_pos (by omega)]
 refine Ya (step := Zj _) (fun (i : Int) (s : List y7) => (b, i, s)) (fun s => some s) yL Yr b (by omega) (fun i s => s.length ≤ a.length + i) ?_ ?_ a (by simp)
 ·intro again i s h0 h1 hI
  have hw : Go.IntKind.wrap .i64 (i + 1) = i + 1 := w64 (by omega) (by omega)
  have hs := Wc s (b.getD i.toNat yL)
  have e := Ko s (y6 b i).1 (y6 b i).2.1 (y6 b i).2.2.1 (y6 b i).2.2.2.1 (y6 b i).2.2.2.2 (by omega)
  refine ⟨?_, by omega⟩
  unfold Zj
  simp only [Bool.cond_eq_ite, decide_eq_true_eq, h0, h1, if_true, hw, e, Option.bind_some]
  rfl
 ·intro again i s hi
  unfold Zj
  simp only [Bool.cond_eq_ite, decide_eq_true_eq, if_neg hi]
theorem y05 (l : List y7) (h : l.length ≤ 1073741824) : Y5 l = some (K6 l) := by
 unfold Y5 y1E
 refine Ya (step := Wr _) (fun (i : Int) (s : List y7) => (l, i, s)) (fun s => some s) yL Va l (by omega) (fun i s => s.length ≤ i) ?_ ?_ [] (by simp)
 ·intro again i s h0 h1 hI
  have hw : Go.IntKind.wrap .i64 (i + 1) = i + 1 := w64 (by omega) (by omega)
  have hs := y18 s (l.getD i.toNat yL)
  refine ⟨?_, by omega⟩
  have c1 : (s.length + 1) * 40 < 140737488355328 := by omega
  clear hs
  unfold Wr Va
  obtain ⟨⟨x1, x2, x3, x4, x5⟩, hx⟩ : ∃ x, y6 l i = x := ⟨_, rfl⟩
  have hx' : l.getD i.toNat yL = (x1, x2, x3, x4, x5) := hx
  rw [hx']
  simp only [Bool.cond_eq_ite, decide_eq_true_eq, h0, h1, if_true, hw, hx, List.length_cons, List.length_nil, Nat.zero_add, c1]
  by_cases h3 : x3 = 0
  ·rw [if_neg (by simpa using h3), if_pos h3]
  ·rw [if_pos (by simpa using h3), if_neg h3]
 ·intro again i s hi
  unfold Wr
  simp only [Bool.cond_eq_ite, decide_eq_true_eq, if_neg hi]
theorem Zg (n : List yb) (hn : n.length ≤ 1073741824) (h : km VS n ≤ 1048576) : yA n = some (yE n) := by
 have hlen := y1H n []
 simp only [List.length_nil] at hlen
 have hD := y05 (n.foldl Z7 []) (by omega)
 unfold yA qa
 refine (Ya (step := ZS _) (fun (i : Int) (s : List y7) => (i, n, s)) (fun s => Option.bind (Y5 s) fun r3 => some r3) yW Z7 n (by omega) (fun i s => (s.length : Int) + km VS (n.drop i) ≤ km VS n) ?_ ?_ [] (by simp)).trans ?_
 ·intro again i s h0 h1 hI
  have hw : Go.IntKind.wrap .i64 (i + 1) = i + 1 := w64 (by omega) (by omega)
  rw [wK yW n i h0 h1, Yi, show (i + 1).toNat = i.toNat + 1 by omega] at hI
  have hnn := wX K7 (n.drop (i.toNat + 1))
  have hm := y0s (n.getD i.toNat yW) s
  have hk : VS (n.getD i.toNat yW) = (List.length (n.getD i.toNat yW) : Int) := rfl
  have e : Zb (s, ym n i) = some (Z7 s (ym n i)) := y2h s _ (by show s.length + List.length (n.getD i.toNat yW) ≤ _; omega)
  refine ⟨?_, by omega⟩
  unfold ZS
  simp only [Bool.cond_eq_ite, decide_eq_true_eq, h0, h1, if_true, hw, e, Option.bind_some]
  rfl
 ·intro again i s hi
  unfold ZS
  simp only [Bool.cond_eq_ite, decide_eq_true_eq, if_neg hi]
 ·rw [hD]
  rfl
theorem YO (q : List Int) (t : List y0) (ht : t.length ≤ 1073741824) (hm : ∀ n ∈ t, List.length n ≤ 1073741824) (h : km Qi t ≤ 1048576) : yN (q, t) = some (yq t) := by
 unfold yN qb
 refine Ya (step := ZT _) (fun (i : Int) (s : List y7) => (i, q, t, s)) (fun s => some s) yi kn t (by omega) (fun i s => (s.length : Int) + km Qi (t.drop i) ≤ km Qi t) ?_ ?_ [] (by simp)
 ·intro again i s h0 h1 hI
  have hw : Go.IntKind.wrap .i64 (i + 1) = i + 1 := w64 (by omega) (by omega)
  rw [wK yi t i h0 h1, Yi, show (i + 1).toNat = i.toNat + 1 by omega] at hI
  have hnn := wX KC (t.drop (i.toNat + 1))
  have hge := y1I (t.getD i.toNat yi)
  have hk := KD (t.getD i.toNat yi)
  have e : yA (ye t i) = some (yE (ye t i)) := Zg _ (hm _ (yI yi t i h0 h1)) (by show km VS (t.getD i.toNat yi) ≤ _; omega)
  have hT : (kn s (t.getD i.toNat yi)).length = s.length + (yE (t.getD i.toNat yi)).length := List.length_append
  have c1 : (s.length + (yE (ye t i)).length) * 40 < 140737488355328 := by
   show (s.length + (yE (t.getD i.toNat yi)).length) * 40 < 140737488355328
   generalize (yE (t.getD i.toNat yi)).length = m at hk ⊢
   clear hT e
   have : s.length + m ≤ 1048576 := by omega
   omega
  refine ⟨?_, by rw [hT]; omega⟩
  unfold ZT
  simp only [Bool.cond_eq_ite, decide_eq_true_eq, h0, h1, if_true, hw, e, Option.bind_some, c1]
  rfl
 ·intro again i s hi
  unfold ZT
  simp only [Bool.cond_eq_ite, decide_eq_true_eq, if_neg hi]
theorem y2i (a b : List y7) (h : a.length + b.length ≤ 1073741824) : Ze (a, b) = some (Z7 a b) := by
 unfold Ze Y8 Vt
 simp only [List.length_nil, Nat.zero_add, List.nil_append]
 rw [if_pos (by omega), Option.bind_some]
 refine Ya (step := Zu _) (fun (i : Int) (s : List y7) => (b, (b.length : Int), i, s)) (fun s => some s) yL Yr b (by omega) (fun i s => s.length ≤ a.length + i) ?_ ?_ a (by simp)
 ·intro again i s h0 h1 hI
  have hw : Go.IntKind.wrap .i64 (i + 1) = i + 1 := w64 (by omega) (by omega)
  have hs := Wc s (b.getD i.toNat yL)
  have e := VI s (y6 b i).1 (y6 b i).2.1 (y6 b i).2.2.1 (y6 b i).2.2.2.1 (y6 b i).2.2.2.2 (by omega)
  refine ⟨?_, by omega⟩
  unfold Zu
  simp only [Bool.cond_eq_ite, decide_eq_true_eq, h0, h1, if_true, hw, e, Option.bind_some]
  rfl
 ·intro again i s hi
  unfold Zu
  simp only [Bool.cond_eq_ite, decide_eq_true_eq, if_neg hi]
theorem y2L (l : List y7) (h : l.length ≤ 1073741824) : Jw l = some (K6 l) := by
 unfold Jw y1G
 refine Ya (step := WU _) (fun (i : Int) (s : List y7) => (l, (l.length : Int), i, s)) (fun s => some s) yL Va l (by omega) (fun i s => s.length ≤ i) ?_ ?_ [] (by simp)
 ·intro again i s h0 h1 hI
  have hw : Go.IntKind.wrap .i64 (i + 1) = i + 1 := w64 (by omega) (by omega)
  have hs := y18 s (l.getD i.toNat yL)
  refine ⟨?_, by omega⟩
  have c1 : (s.length + 1) * 40 < 140737488355328 := by omega
  clear hs
  unfold WU Va
  obtain ⟨⟨x1, x2, x3, x4, x5⟩, hx⟩ : ∃ x, y6 l i = x := ⟨_, rfl⟩
  have hx' : l.getD i.toNat yL = (x1, x2, x3, x4, x5) := hx
  rw [hx']
  simp only [Bool.cond_eq_ite, decide_eq_true_eq, h0, h1, if_true, hw, hx, List.length_cons, List.length_nil, Nat.zero_add, c1]
  by_cases h3 : x3 = 0
  ·rw [if_neg (by simpa using h3), if_pos h3]
  ·rw [if_pos (by simpa using h3), if_neg h3]
 ·intro again i s hi
  unfold WU
  simp only [Bool.cond_eq_ite, decide_eq_true_eq, if_neg hi]
theorem jX (n : List yb) (hn : n.length ≤ 1073741824) (h : km VS n ≤ 1048576) : yP n = some (yE n) := by
 have hlen := y1H n []
 simp only [List.length_nil] at hlen
 have hD := y2L (n.foldl Z7 []) (by omega)
 unfold yP qe
 refine (Ya (step := ZZ _) (fun (i : Int) (s : List y7) => (n, (n.length : Int), i, s)) (fun s => Option.bind (Jw s) fun r3 => some r3) yW Z7 n (by omega) (fun i s => (s.length : Int) + km VS (n.drop i) ≤ km VS n) ?_ ?_ [] (by simp)).trans ?_
 ·intro again i s h0 h1 hI
  have hw : Go.IntKind.wrap .i64 (i + 1) = i + 1 := w64 (by omega) (by omega)
  rw [wK yW n i h0 h1, Yi, show (i + 1).toNat = i.toNat + 1 by omega] at hI
  have hnn := wX K7 (n.drop (i.toNat + 1))
  have hm := y0s (n.getD i.toNat yW) s
  have hk : VS (n.getD i.toNat yW) = (List.length (n.getD i.toNat yW) : Int) := rfl
  have e : Ze (s, ym n i) = some (Z7 s (ym n i)) := y2i s _ (by show s.length + List.length (n.getD i.toNat yW) ≤ _; omega)
  refine ⟨?_, by omega⟩
  unfold ZZ
  simp only [Bool.cond_eq_ite, decide_eq_true_eq, h0, h1, if_true, hw, e, Option.bind_some]
  rfl
 ·intro again i s hi
  unfold ZZ
  simp only [Bool.cond_eq_ite, decide_eq_true_eq, if_neg hi]
 ·rw [hD]
  rfl
theorem KR (q : List Int) (t : List y0) (ht : t.length ≤ 1073741824) (hm : ∀ n ∈ t, List.length n ≤ 1073741824) (h : km Qi t ≤ 1048576) : zD (q, t) = some (yq t) := by
 unfold zD qg
 refine Ya (step := j8 _) (fun (i : Int) (s : List y7) => (t, (t.length : Int), i, s)) (fun s => some s) yi kn t (by omega) (fun i s => (s.length : Int) + km Qi (t.drop i) ≤ km Qi t) ?_ ?_ [] (by simp)
 ·intro again i s h0 h1 hI
  have hw : Go.IntKind.wrap .i64 (i + 1) = i + 1 := w64 (by omega) (by omega)
  rw [wK yi t i h0 h1, Yi, show (i + 1).toNat = i.toNat + 1 by omega] at hI
  have hnn := wX KC (t.drop (i.toNat + 1))
  have hge := y1I (t.getD i.toNat yi)
  have hk := KD (t.getD i.toNat yi)
  have e : yP (ye t i) = some (yE (ye t i)) := jX _ (hm _ (yI yi t i h0 h1)) (by show km VS (t.getD i.toNat yi) ≤ _; omega)
  have hT : (kn s (t.getD i.toNat yi)).length = s.length + (yE (t.getD i.toNat yi)).length := List.length_append
  have c1 : (s.length + (yE (ye t i)).length) * 40 < 140737488355328 := by
   show (s.length + (yE (t.getD i.toNat yi)).length) * 40 < 140737488355328
   generalize (yE (t.getD i.toNat yi)).length = m at hk ⊢
   clear hT e
   have : s.length + m ≤ 1048576 := by omega
   omega
  refine ⟨?_, by rw [hT]; omega⟩
  unfold j8
  simp only [Bool.cond_eq_ite, decide_eq_true_eq, h0, h1, if_true, hw, e, Option.bind_some, c1]
  rfl
 ·intro again i s hi
  unfold j8
  simp only [Bool.cond_eq_ite, decide_eq_true_eq, if_neg hi]
end Go.Proofs.YtgediecndaheiaaGreat.Pl
namespace Go.Proofs.YtgediecndaheiaaGreat.Pl
open Go.Proofs.YtgediecndaheiaaGreat.R Go.Proofs.YtgediecndaheiaaGreat.XS
def y8O {S A R : Type} (g : Int → S → A → Except (Option R) S) (k : S → Option R) : List A → Int → S → Option R
 | [], _, s => k s
 | a :: l, i, s => match g i s a with
  | .error r => r
  | .ok s' => y8O g k l (i + 1) s'
theorem y8P {T A S R : Type} {step : (T → Option R) → T → Option R} (mk : Int → S → T) (g : Int → S → A → Except (Option R) S) (k : S → Option R) (da : A) (l : List A) (hl : l.length ≤ 1099511627776) (I : Nat → S → Prop)
  (h : ∀ again i s, 0 ≤ i → i < (l.length : Int) → I i.toNat s → (step again (mk i s) = match g i s (l.getD i.toNat da) with
   | .error r => r
   | .ok s' => again (mk (i + 1) s')) ∧ ∀ s', g i s (l.getD i.toNat da) = .ok s' → I (i.toNat + 1) s')
  (hd : ∀ again i s, ¬ i < (l.length : Int) → step again (mk i s) = k s) (s : S) (hs : I 0 s) : zV step Yg (mk 0 s) = y8O g k l 0 s := by
 have key : ∀ (n : Nat) (i : Int) (s : S), 0 ≤ i → i ≤ l.length → I i.toNat s → l.length - i.toNat < n → zV step n (mk i s) = y8O g k (l.drop i.toNat) i s := by
  intro n
  induction n with
  | zero => intro i s _ _ _ hn; omega
  | succ n ih =>
   intro i s h0 h1 hI hn
   rw [zV]
   by_cases hi : i < (l.length : Int)
   ·obtain ⟨e, hI'⟩ := h (zV step n) i s h0 hi hI
    have e1 : (i + 1).toNat = i.toNat + 1 := by omega
    rw [e, wK da l i h0 hi, y8O]
    cases hg : g i s (l.getD i.toNat da) with
    | error r => rfl
    | ok s' => exact ih (i + 1) s' (by omega) (by omega) (by rw [e1]; exact hI' s' hg) (by omega)
   ·rw [hd _ i s hi, List.drop_of_length_le (by omega)]
    rfl
 have := key Yg 0 s (by omega) (by omega) hs (by rw [y12]; simp; omega)
 simpa using this
def zX {A : Type} (p : A → Bool) : List A → Int → Int
 | [], _ => -1
 | a :: l, i => if p a then i else zX p l (i + 1)
theorem y8Q {A R : Type} (p : A → Bool) (hit : Int → Option R) (miss : Option R) : ∀ (l : List A) (i : Int), 0 ≤ i → y8O (fun i (_ : Unit) a => if p a then .error (hit i) else .ok ()) (fun _ => miss) l i () = if zX p l i < 0 then miss else hit (zX p l i)
 | [], i, _ => by simp [y8O, zX]
 | a :: l, i, h => by
  rw [y8O, zX]
  by_cases hp : p a = true
  ·rw [if_pos hp, if_pos hp, if_neg (by omega)]
  ·rw [if_neg hp, if_neg hp]
   exact y8Q p hit miss l (i + 1) (by omega)
theorem YU {T A R : Type} {step : (T → Option R) → T → Option R} (mk : Int → T) (p : A → Bool) (hit : Int → Option R) (miss : Option R) (da : A) (l : List A) (hl : l.length ≤ 1099511627776)
  (h : ∀ again i, 0 ≤ i → i < (l.length : Int) → step again (mk i) = if p (l.getD i.toNat da) then hit i else again (mk (i + 1)))
  (hd : ∀ again i, ¬ i < (l.length : Int) → step again (mk i) = miss) : zV step Yg (mk 0) = if zX p l 0 < 0 then miss else hit (zX p l 0) := by
 rw [← y8Q p hit miss l 0 (Int.le_refl _)]
 refine y8P (fun i (_ : Unit) => mk i) _ _ da l hl (fun _ _ => True) (fun again i s h0 h1 _ => ⟨?_, fun _ _ => trivial⟩) (fun again i s hi => hd again i hi) () trivial
 rw [h again i h0 h1]
 cases p (l.getD i.toNat da) <;> rfl
theorem YJ {A : Type} (p : A → Bool) (da : A) : ∀ (l : List A) (i : Int), 0 ≤ i → zX p l i = -1 ∨ (i ≤ zX p l i ∧ zX p l i < i + l.length ∧ p (l.getD (zX p l i - i).toNat da) = true)
 | [], i, _ => .inl rfl
 | a :: l, i, h => by
  rw [zX]
  by_cases hp : p a = true
  ·rw [if_pos hp]
   refine .inr ⟨Int.le_refl _, by simp only [List.length_cons]; omega, ?_⟩
   simpa using hp
  ·rw [if_neg hp]
   rcases YJ p da l (i + 1) (by omega) with e | ⟨e1, e2, e3⟩
   ·exact .inl e
   ·refine .inr ⟨by omega, by simp only [List.length_cons]; omega, ?_⟩
    rw [show (zX p l (i + 1) - i).toNat = (zX p l (i + 1) - (i + 1)).toNat + 1 by omega, List.getD_cons_succ]
    exact e3
def z9 (l : List y9) (id : Int) : Int := zX (fun a : y9 => a.1 == id) l 0
theorem y0t (l : List y9) (id : Int) : z9 l id = -1 ∨ (0 ≤ z9 l id ∧ z9 l id < l.length ∧ (l.getD (z9 l id).toNat zc).1 = id) := by
 rcases YJ (fun a : y9 => a.1 == id) zc l 0 (Int.le_refl _) with h | ⟨h1, h2, h3⟩
 ·exact .inl h
 ·refine .inr ⟨h1, by simpa [z9] using h2, ?_⟩
  have := eq_of_beq h3
  simpa [z9] using this
theorem ZE (l : List y9) (id : Int) (hl : l.length ≤ 1073741824) : zP (l, id) = some (z9 l id) := by
 unfold zP y0I
 refine (YU (step := wv _ _) (fun i => (l, id, i)) (fun a : y9 => a.1 == id) (fun x => some x) (some (-1)) zc l (by omega) ?_ ?_).trans ?_
 ·intro again i h0 h1
  have hw : Go.IntKind.wrap .i64 (i + 1) = i + 1 := w64 (by omega) (by omega)
  unfold wv
  simp only [Bool.cond_eq_ite, decide_eq_true_eq, h0, h1, if_true, hw]
  rfl
 ·intro again i hi
  unfold wv
  simp only [Bool.cond_eq_ite, decide_eq_true_eq, if_neg hi]
 ·rcases y0t l id with h | ⟨h1, h2, h3⟩ <;> unfold z9 at *
  ·rw [h]
   rfl
  ·rw [if_neg (by omega)]
theorem ko (l : List y9) (id : Int) (hl : l.length ≤ 1073741824) : YB (l, id) = some (z9 l id) := by
 have key : z5 (l, id) = some (z9 l id, id) := by
  unfold z5 YQ
  refine (YU (step := yX _ _) (fun i => (l, (l.length : Int), i, id)) (fun a : y9 => a.1 == id) (fun x => some (x, id)) (some (-1, id)) zc l (by omega) ?_ ?_).trans ?_
  ·intro again i h0 h1
   have hw : Go.IntKind.wrap .i64 (i + 1) = i + 1 := w64 (by omega) (by omega)
   unfold yX Kl
   simp only [Bool.cond_eq_ite, decide_eq_true_eq, h0, h1, if_true, hw, Option.bind_some]
   rfl
  ·intro again i hi
   unfold yX
   simp only [Bool.cond_eq_ite, decide_eq_true_eq, if_neg hi]
  ·rcases y0t l id with h | ⟨h1, h2, h3⟩ <;> unfold z9 at *
   ·rw [h]
    rfl
   ·rw [if_neg (by omega)]
 unfold YB
 rw [key]
 rfl
def yfE (l : List Int) (v : Int) : Bool := decide (0 ≤ zX (fun a : Int => a == v) l 0)
theorem yaM (l : List Int) (v : Int) (hl : l.length ≤ 1073741824) : KA (l, v) = some (yfE l v) := by
 unfold KA y0L
 refine (YU (step := wC _ _) (fun i => (l, v, i)) (fun a : Int => a == v) (fun _ => some true) (some false) y2f l (by omega) ?_ ?_).trans ?_
 ·intro again i h0 h1
  have hw : Go.IntKind.wrap .i64 (i + 1) = i + 1 := w64 (by omega) (by omega)
  unfold wC
  simp only [Bool.cond_eq_ite, decide_eq_true_eq, h0, h1, if_true, hw]
  rfl
 ·intro again i hi
  unfold wC
  simp only [Bool.cond_eq_ite, decide_eq_true_eq, if_neg hi]
 ·unfold yfE
  by_cases h : zX (fun a : Int => a == v) l 0 < 0
  ·rw [if_pos h, decide_eq_false (by omega)]
  ·rw [if_neg h, decide_eq_true (by omega)]
theorem yaN (l : List Int) (v : Int) (hl : l.length ≤ 1073741824) : YD (l, v) = some (yfE l v) := by
 have key : Zz (l, v) = some (zX (fun a : Int => a == v) l 0) := by
  unfold Zz KY
  refine (YU (step := YS _ _) (fun i => (l, v, (l.length : Int), i)) (fun a : Int => a == v) (fun x => some x) (some (-1)) y2f l (by omega) ?_ ?_).trans ?_
  ·intro again i h0 h1
   have hw : Go.IntKind.wrap .i64 (i + 1) = i + 1 := w64 (by omega) (by omega)
   unfold YS
   have e : (v == (zw l i)) = ((zw l i) == v) := Bool.beq_comm
   simp only [Bool.cond_eq_ite, decide_eq_true_eq, h0, h1, if_true, hw, e]
   rfl
  ·intro again i hi
   unfold YS
   simp only [Bool.cond_eq_ite, decide_eq_true_eq, if_neg hi]
  ·rcases YJ (fun a : Int => a == v) y2f l 0 (Int.le_refl _) with h | ⟨h1, h2, h3⟩
   ·rw [h]
    rfl
   ·rw [if_neg (by omega)]
 unfold YD
 rw [key]
 rfl
def K8 (l : List y9) : Nat → Int → List Int
 | 0, _ => []
 | n + 1, at_ => if at_ < 0 then [] else (l.getD at_.toNat zc).1 :: K8 l n (z9 l (l.getD at_.toNat zc).2)
def Yb (l : List y9) (id : Int) : List Int := K8 l (l.length + 1) (z9 l id)
theorem kp (l : List y9) (n : Nat) (i : Int) (h : 0 ≤ i) : K8 l (n + 1) i = (l.getD i.toNat zc).1 :: K8 l n (z9 l (l.getD i.toNat zc).2) := by rw [K8, if_neg (by omega)]
theorem yeY (l : List y9) (n : Nat) : K8 l n (-1) = [] := by cases n <;> simp [K8]
theorem y8R (l : List y9) : ∀ (n : Nat) (i : Int), (K8 l n i).length ≤ n
 | 0, _ => by simp [K8]
 | n + 1, i => by
  rw [K8]
  split
  ·simp
  ·have := y8R l n (z9 l (l.getD i.toNat zc).2)
   simp only [List.length_cons]
   omega
theorem y0O (l : List y9) (id : Int) (hl : l.length ≤ 1048576) : w7 (l, id) = some (Yb l id) := by
 unfold w7 QI Yb
 rw [ZE l id (by omega), Option.bind_some]
 have key := ZD (step := WH (fun x4 => some x4)) (fun t : WG => l.length + 1 - t.2.2.length) (fun t => t.1 = l ∧ t.2.2.length ≤ l.length + 1 ∧ ∃ id, t.2.1 = z9 l id) (fun t => some (t.2.2 ++ K8 l (l.length + 1 - t.2.2.length) t.2.1)) ?_ (l, z9 l id, []) ⟨rfl, by simp, id, rfl⟩ (by simp; omega)
 ·simpa using key
 ·rintro again ⟨l', at_, o⟩ ⟨hll, ho, id', hid⟩ hag
  simp only at hll ho hid
  subst hll hid
  unfold WH
  simp only [Bool.cond_eq_ite, decide_eq_true_eq, List.length_cons, List.length_nil, Nat.zero_add]
  rcases y0t l' id' with h | ⟨h1, h2, h3⟩
  ·rw [h]
   have : K8 l' (l'.length + 1 - o.length) (-1) = [] := by
    cases l'.length + 1 - o.length <;> simp [K8]
   simp [this]
  ·simp only [ge_iff_le, h1, if_true, h2]
   by_cases hlen : (o.length : Int) ≤ (l'.length : Int)
   ·have e := ZE l' (yM l' (z9 l' id')).2 (by omega)
    rw [show l'.length + 1 - o.length = (l'.length - o.length) + 1 by omega, kp _ _ _ h1]
    simp only [hlen, decide_true, Option.bind_some, if_true, e]
    have hl1 : (o ++ [(yM l' (z9 l' id')).1]).length = o.length + 1 := by simp
    rw [if_pos (by omega), hag (l', z9 l' (yM l' (z9 l' id')).2, o ++ [(yM l' (z9 l' id')).1]) ⟨rfl, by show (o ++ [(yM l' (z9 l' id')).1]).length ≤ _; omega, _, rfl⟩ (by show l'.length + 1 - (o ++ [(yM l' (z9 l' id')).1]).length < l'.length + 1 - o.length; omega)]
    simp only [hl1]
    rw [show l'.length + 1 - (o.length + 1) = l'.length - o.length by omega, List.append_assoc]
    rfl
   ·rw [show l'.length + 1 - o.length = 0 by omega]
    simp [hlen, K8]
theorem y52 (l : List y9) (id : Int) (hl : l.length ≤ 1048576) : kb (l, id) = some (Yb l id) := by
 unfold kb QY Yb
 simp only
 rw [w64 (n := (l.length : Int) + 1) (by omega) (by omega)]
 have key := ZD (step := ka (fun x2 => some x2)) (fun t : k9 => l.length + 1 - t.2.2.2.2.length) (fun t => t.1 = l ∧ t.2.2.1 = (l.length : Int) + 1 ∧ t.2.2.2.1 = (t.2.2.2.2.length : Int) ∧ t.2.2.2.2.length ≤ l.length + 1) (fun t => some (t.2.2.2.2 ++ K8 l (l.length + 1 - t.2.2.2.2.length) (z9 l t.2.1))) ?_ (l, id, (l.length : Int) + 1, 0, []) ⟨rfl, rfl, by simp, by simp⟩ (by simp; omega)
 ·simpa using key
 ·rintro again ⟨l', id', n, i, o⟩ ⟨hll, hn, hi, ho⟩ hag
  simp only at hll ho hn hi
  subst hll hn hi
  unfold ka
  have e := ko l' id' (by omega)
  simp only [Bool.cond_eq_ite, decide_eq_true_eq, e, Option.bind_some, List.length_cons, List.length_nil, Nat.zero_add]
  by_cases hlen : (o.length : Int) < (l'.length : Int) + 1
  ·rw [if_pos hlen, show l'.length + 1 - o.length = (l'.length - o.length) + 1 by omega]
   rcases y0t l' id' with h | ⟨h1, h2, h3⟩
   ·rw [h, yeY]
    simp
   ·have hw : Go.IntKind.wrap .i64 ((o.length : Int) + 1) = (o.length : Int) + 1 := w64 (by omega) (by omega)
    have hl1 : (o ++ [id']).length = o.length + 1 := by simp
    rw [kp _ _ _ h1, if_neg (by omega), if_pos (by omega), if_pos h1, if_pos h2, hw, hag (l', (yM l' (z9 l' id')).2, (l'.length : Int) + 1, (o.length : Int) + 1, o ++ [id']) ⟨rfl, rfl, by show _ = ((o ++ [id']).length : Int); rw [hl1]; rfl, by show (o ++ [id']).length ≤ _; omega⟩ (by show l'.length + 1 - (o ++ [id']).length < l'.length + 1 - o.length; omega), h3]
    simp only [hl1]
    rw [show l'.length + 1 - (o.length + 1) = l'.length - o.length by omega, List.append_assoc]
    rfl
  ·rw [if_neg hlen, show l'.length + 1 - o.length = 0 by omega]
   simp [K8]
end Go.Proofs.YtgediecndaheiaaGreat.Pl
namespace Go.Proofs.YtgediecndaheiaaGreat.Pl
open Go.Proofs.YtgediecndaheiaaGreat.R Go.Proofs.YtgediecndaheiaaGreat.XS
theorem Z8 (x a b : Int) : yz (x, a, b) = some (inR x a b) := by
 unfold yz inR
 by_cases h : x ≥ a <;> simp [h]
theorem ZF (x a b : Int) : yD (x, a, b) = some (inR x a b) := by
 unfold yD inR
 by_cases h : x ≥ a <;> simp [h]
theorem bi (x y : Int) : ((x == y) = true) = (x = y) := by simp
end Go.Proofs.YtgediecndaheiaaGreat.Pl
namespace Go.Proofs.YtgediecndaheiaaGreat.Pl
open Go.Proofs.YtgediecndaheiaaGreat.R Go.Proofs.YtgediecndaheiaaGreat.XS
def YK {A : Type} (p : Int → A → Bool) : List A → Int → Bool
 | [], _ => false
 | a :: l, i => p i a || YK p l (i + 1)
theorem yaO {A : Type} (p q : Int → A → Bool) : ∀ (l : List A) (i : Int), YK (fun i a => p i a || q i a) l i = (YK p l i || YK q l i)
 | [], _ => rfl
 | a :: l, i => by
  rw [YK, YK, YK, yaO p q l (i + 1)]
  cases p i a <;> cases q i a <;> cases YK p l (i + 1) <;> rfl
theorem y5R {A : Type} {p q : Int → A → Bool} : ∀ (l : List A) (i : Int), (∀ j a, i ≤ j → p j a = q j a) → YK p l i = YK q l i
 | [], _, _ => rfl
 | a :: l, i, h => by rw [YK, YK, h i a (Int.le_refl _), y5R l (i + 1) (fun j a hj => h j a (by omega))]
theorem kq {A : Type} (da : A) {p : Int → A → Bool} : ∀ (l : List A) (i : Int), YK p l i = false → ∀ j : Nat, j < l.length → p (i + j) (l.getD j da) = false
 | a :: l, i, h, 0, _ => by
  rw [YK, Bool.or_eq_false_iff] at h
  simpa using h.1
 | a :: l, i, h, j + 1, hj => by
  rw [YK, Bool.or_eq_false_iff] at h
  have := kq da l (i + 1) h.2 j (by simpa using hj)
  rw [show i + ((j + 1 : Nat) : Int) = i + 1 + (j : Int) by omega, List.getD_cons_succ]
  exact this
theorem y3v {A S R : Type} (p : Int → A → Bool) (f : S → A → S) (r : Option R) (k : S → Option R) : ∀ (l : List A) (i : Int) (s : S), y8O (fun i s a => if p i a = true then .error r else .ok (f s a)) k l i s = if YK p l i = true then r else k (l.foldl f s)
 | [], _, _ => by simp [y8O, YK]
 | a :: l, i, s => by
  rw [y8O, YK]
  by_cases h : p i a = true
  ·simp [h]
  ·have hf : p i a = false := by simpa using h
   simp only [hf, Bool.false_eq_true, if_false, Bool.false_or, List.foldl_cons]
   exact y3v p f r k l (i + 1) (f s a)
theorem y4e {T A S R : Type} {step : (T → Option R) → T → Option R} (mk : Int → S → T) (g : Int → S → A → Except (Option R) S) (k : S → Option R) (da : A) (l : List A) (hl : l.length ≤ 1099511627776) (I : Nat → S → Prop)
  (h : ∀ again i s, 0 ≤ i → i < (l.length : Int) → I i.toNat s → (step again (mk i s) = match g i s (l.getD i.toNat da) with
   | .error r => r
   | .ok s' => again (mk (i + 1) s')) ∧ ∀ s', g i s (l.getD i.toNat da) = .ok s' → I (i.toNat + 1) s')
  (hd : ∀ again i s, ¬ i < (l.length : Int) → step again (mk i s) = k s) (i0 : Int) (h00 : 0 ≤ i0) (s : S) (hs : I i0.toNat s) : zV step Yg (mk i0 s) = y8O g k (l.drop i0.toNat) i0 s := by
 have key : ∀ (n : Nat) (i : Int) (s : S), 0 ≤ i → I i.toNat s → l.length - i.toNat < n → zV step n (mk i s) = y8O g k (l.drop i.toNat) i s := by
  intro n
  induction n with
  | zero => intro i s _ _ hn; omega
  | succ n ih =>
   intro i s h0 hI hn
   rw [zV]
   by_cases hi : i < (l.length : Int)
   ·obtain ⟨e, hI'⟩ := h (zV step n) i s h0 hi hI
    have e1 : (i + 1).toNat = i.toNat + 1 := by omega
    rw [e, wK da l i h0 hi, y8O]
    cases hg : g i s (l.getD i.toNat da) with
    | error r => rfl
    | ok s' => exact ih (i + 1) s' (by omega) (by rw [e1]; exact hI' s' hg) (by omega)
   ·rw [hd _ i s hi, List.drop_of_length_le (by omega)]
    rfl
 exact key Yg i0 s h00 hs (by rw [y12]; omega)
theorem y3w {T A S R : Type} {step : (T → Option R) → T → Option R} (mk : Int → S → T) (p : Int → A → Bool) (f : S → A → S) (r : Option R) (k : S → Option R) (da : A) (l : List A) (hl : l.length ≤ 1099511627776)
  (h : ∀ again i s, 0 ≤ i → i < (l.length : Int) → step again (mk i s) = if p i (l.getD i.toNat da) = true then r else again (mk (i + 1) (f s (l.getD i.toNat da))))
  (hd : ∀ again i s, ¬ i < (l.length : Int) → step again (mk i s) = k s) (s : S) : zV step Yg (mk 0 s) = if YK p l 0 = true then r else k (l.foldl f s) := by
 rw [← y3v p f r k l 0 s]
 have := y4e (step := step) mk (fun i s a => if p i a = true then .error r else .ok (f s a)) k da l hl (fun _ _ => True) (fun again i s h0 h1 _ => ⟨?_, fun _ _ => trivial⟩) hd 0 (Int.le_refl _) s trivial
 ·simpa using this
 ·rw [h again i s h0 h1]
  by_cases hp : p i (l.getD i.toNat da) = true
  ·rw [if_pos hp, if_pos hp]
  ·rw [if_neg hp, if_neg hp]
theorem zU {T A R : Type} {step : (T → Option R) → T → Option R} (mk : Int → T) (p : Int → A → Bool) (r k : Option R) (da : A) (l : List A) (hl : l.length ≤ 1099511627776)
  (h : ∀ again i, 0 ≤ i → i < (l.length : Int) → step again (mk i) = if p i (l.getD i.toNat da) = true then r else again (mk (i + 1)))
  (hd : ∀ again i, ¬ i < (l.length : Int) → step again (mk i) = k) : zV step Yg (mk 0) = if YK p l 0 = true then r else k :=
 y3w (fun i (_ : Unit) => mk i) p (fun _ _ => ()) r (fun _ => k) da l hl (fun again i _ h0 h1 => h again i h0 h1) (fun again i _ hi => hd again i hi) ()
end Go.Proofs.YtgediecndaheiaaGreat.Pl
namespace Go.Proofs.YtgediecndaheiaaGreat.Pl
open Go.Proofs.YtgediecndaheiaaGreat.R Go.Proofs.YtgediecndaheiaaGreat.XS
def y06 (blk : Int) (s : List y7) (a : y7) : List y7 := if a.1 == blk then s ++ [a] else s
def zZ (ks : List y7) (blk : Int) : List y7 := ks.foldl (y06 blk) []
theorem y2j (blk : Int) (s : List y7) (a : y7) : (y06 blk s a).length ≤ s.length + 1 := by
 unfold y06
 split <;> simp
theorem y4f (blk : Int) : ∀ (l s : List y7), (l.foldl (y06 blk) s).length ≤ s.length + l.length
 | [], s => by simp
 | c :: l, s => by
  have h := y4f blk l (y06 blk s c)
  have h2 := y2j blk s c
  simp only [List.foldl_cons, List.length_cons]
  omega
theorem y8S : ∀ (t : List y0) (s : List y7), ((t.foldl kn s).length : Int) ≤ s.length + km Qi t
 | [], s => by simp [km]
 | n :: t, s => by
  have h := y8S t (kn s n)
  have h1 := KD n
  have h2 := y1I n
  have h3 : (kn s n).length = s.length + (yE n).length := List.length_append
  simp only [List.foldl_cons, Yi]
  omega
theorem yeZ (t : List y0) : ((yq t).length : Int) ≤ km Qi t := by
 have := y8S t []
 simpa [yq] using this
structure TOk (t : List y0) : Prop where
 len : t.length ≤ 1048576
 nodes : ∀ n ∈ t, List.length n ≤ 1073741824
 sum : km Qi t ≤ 1048576
theorem TOk.keys {t : List y0} (h : TOk t) : (yq t).length ≤ 1048576 := by
 have h1 := yeZ t
 have h2 := h.sum
 omega
theorem y53 (q : List Int) (t : List y0) (blk : Int) (ht : TOk t) : WI (q, t, blk) = some (zZ (yq t) blk) := by
 unfold WI QJ
 have hk := ht.keys
 have e : yN (q, t) = some (yq t) := YO q t (by have := ht.len; omega) ht.nodes ht.sum
 simp only [e, Option.bind_some]
 generalize yq t = ks at hk
 refine Ya (step := Jp _) (fun (i : Int) (s : List y7) => (blk, i, s, ks)) (fun s => some s) yL (y06 blk) ks (by omega) (fun i s => s.length ≤ i) ?_ ?_ [] (by simp)
 ·intro again i s h0 h1 hI
  have hw : Go.IntKind.wrap .i64 (i + 1) = i + 1 := w64 (by omega) (by omega)
  have hs := y2j blk s (ks.getD i.toNat yL)
  refine ⟨?_, by omega⟩
  have c1 : (s.length + 1) * 40 < 140737488355328 := by omega
  clear hs
  unfold Jp y06
  obtain ⟨⟨x1, x2, x3, x4, x5⟩, hx⟩ : ∃ x, y6 ks i = x := ⟨_, rfl⟩
  have hx' : ks.getD i.toNat yL = (x1, x2, x3, x4, x5) := hx
  rw [hx']
  simp only [Bool.cond_eq_ite, decide_eq_true_eq, h0, h1, if_true, hw, hx, List.length_cons, List.length_nil, Nat.zero_add, c1]
  by_cases h3 : (x1 == blk) = true
  ·rw [if_pos h3, if_pos h3]
  ·rw [if_neg h3, if_neg h3]
 ·intro again i s hi
  unfold Jp
  simp only [Bool.cond_eq_ite, decide_eq_true_eq, if_neg hi]
theorem y54 (q : List Int) (t : List y0) (blk : Int) (ht : TOk t) : k7 (q, t, blk) = some (zZ (yq t) blk) := by
 unfold k7 QW
 have hk := ht.keys
 have e : zD (q, t) = some (yq t) := KR q t (by have := ht.len; omega) ht.nodes ht.sum
 simp only [e, Option.bind_some]
 generalize yq t = ks at hk
 refine Ya (step := JK _) (fun (i : Int) (s : List y7) => (blk, (ks.length : Int), i, s, ks)) (fun s => some s) yL (y06 blk) ks (by omega) (fun i s => s.length ≤ i) ?_ ?_ [] (by simp)
 ·intro again i s h0 h1 hI
  have hw : Go.IntKind.wrap .i64 (i + 1) = i + 1 := w64 (by omega) (by omega)
  have hs := y2j blk s (ks.getD i.toNat yL)
  refine ⟨?_, by omega⟩
  have c1 : (s.length + 1) * 40 < 140737488355328 := by omega
  clear hs
  unfold JK y06
  obtain ⟨⟨x1, x2, x3, x4, x5⟩, hx⟩ : ∃ x, y6 ks i = x := ⟨_, rfl⟩
  have hx' : ks.getD i.toNat yL = (x1, x2, x3, x4, x5) := hx
  rw [hx']
  simp only [Bool.cond_eq_ite, decide_eq_true_eq, h0, h1, if_true, hw, hx, List.length_cons, List.length_nil, Nat.zero_add, c1]
  by_cases h3 : (x1 == blk) = true
  ·rw [if_pos h3, if_pos h3]
  ·rw [if_neg h3, if_neg h3]
 ·intro again i s hi
  unfold JK
  simp only [Bool.cond_eq_ite, decide_eq_true_eq, if_neg hi]
def wZ (path : List Int) (s : Bool × y7) (a : y7) : Bool × y7 := if yfE path a.2.1 = true ∧ (s.1 = false ∨ s.2.2.1 < a.2.1) then (true, a) else s
def Y1 (ks : List y7) (path : List Int) : Bool × y7 := ks.foldl (wZ path) (false, (0, 0, 0, 0, 0))
def ans (r : Bool × y7) : Int × Int × Int × Int × Int × Bool := (r.2.1, r.2.2.1, r.2.2.2.1, r.2.2.2.2.1, r.2.2.2.2.2, r.1)
theorem y2M (q : List Int) (t : List y0) (blk : Int) (path : List Int) (ht : TOk t) (hp : path.length ≤ 1073741824) : jy (q, t, blk, path) = some (ans (Y1 (zZ (yq t) blk) path)) := by
 unfold jy QK
 have hk : (zZ (yq t) blk).length ≤ 1048576 := by
  have h1 := y4f blk (yq t) []
  have h2 := ht.keys
  unfold zZ
  simp only [List.length_nil] at h1
  omega
 simp only [y53 q t blk ht, Option.bind_some]
 generalize zZ (yq t) blk = ks at hk
 refine (Ya (step := Jq _) (fun (i : Int) (s : Bool × y7) => (path, s.1, i, 0, 0, 0, 0, 0, s.2.1, s.2.2.1, s.2.2.2.1, s.2.2.2.2.1, s.2.2.2.2.2, ks)) (fun s => some (ans s)) yL (wZ path) ks (by omega) (fun _ _ => True) ?_ ?_ (false, (0, 0, 0, 0, 0)) trivial)
 ·rintro again i ⟨f, b1, b2, b3, b4, b5⟩ h0 h1 _
  have hw : Go.IntKind.wrap .i64 (i + 1) = i + 1 := w64 (by omega) (by omega)
  refine ⟨?_, trivial⟩
  unfold Jq wZ
  obtain ⟨⟨x1, x2, x3, x4, x5⟩, hx⟩ : ∃ x, y6 ks i = x := ⟨_, rfl⟩
  have hx' : ks.getD i.toNat yL = (x1, x2, x3, x4, x5) := hx
  rw [hx']
  have e := yaM path x2 hp
  simp only [Bool.cond_eq_ite, decide_eq_true_eq, h0, h1, if_true, hw, hx, e, Option.bind_some]
  cases yfE path x2 <;> cases f <;> by_cases hb : b2 < x2 <;> simp [hb]
 ·rintro again i ⟨f, b1, b2, b3, b4, b5⟩ hi
  unfold Jq
  simp only [Bool.cond_eq_ite, decide_eq_true_eq, if_neg hi]
  rfl
theorem y55 (q : List Int) (t : List y0) (blk : Int) (path : List Int) (ht : TOk t) (hp : path.length ≤ 1073741824) : k8 (q, t, blk, path) = some (ans (Y1 (zZ (yq t) blk) path)) := by
 unfold k8 QX
 have hk : (zZ (yq t) blk).length ≤ 1048576 := by
  have h1 := y4f blk (yq t) []
  have h2 := ht.keys
  unfold zZ
  simp only [List.length_nil] at h1
  omega
 simp only [y54 q t blk ht, Option.bind_some]
 generalize zZ (yq t) blk = ks at hk
 refine (Ya (step := JL _) (fun (i : Int) (s : Bool × y7) => (path, s.1, (ks.length : Int), i, 0, 0, 0, 0, 0, s.2.1, s.2.2.1, s.2.2.2.1, s.2.2.2.2.1, s.2.2.2.2.2, ks)) (fun s => some (ans s)) yL (wZ path) ks (by omega) (fun _ _ => True) ?_ ?_ (false, (0, 0, 0, 0, 0)) trivial)
 ·rintro again i ⟨f, b1, b2, b3, b4, b5⟩ h0 h1 _
  have hw : Go.IntKind.wrap .i64 (i + 1) = i + 1 := w64 (by omega) (by omega)
  refine ⟨?_, trivial⟩
  unfold JL wZ
  obtain ⟨⟨x1, x2, x3, x4, x5⟩, hx⟩ : ∃ x, y6 ks i = x := ⟨_, rfl⟩
  have hx' : ks.getD i.toNat yL = (x1, x2, x3, x4, x5) := hx
  rw [hx']
  have e := yaN path x2 hp
  simp only [Bool.cond_eq_ite, decide_eq_true_eq, h0, h1, if_true, hw, hx, e, Option.bind_some]
  cases yfE path x2 <;> cases f <;> by_cases hb : b2 < x2 <;> simp [hb]
 ·rintro again i ⟨f, b1, b2, b3, b4, b5⟩ hi
  unfold JL
  simp only [Bool.cond_eq_ite, decide_eq_true_eq, if_neg hi]
  rfl
def ydd (t : List y0) (l : List y9) (blk id : Int) : Bool × y7 := Y1 (zZ (yq t) blk) (Yb l id)
theorem y2k (l : List y9) (id : Int) (hl : l.length ≤ 1048576) : (Yb l id).length ≤ 1073741824 := by
 have := y8R l (l.length + 1) (z9 l id)
 unfold Yb
 omega
theorem y8T (q : List Int) (t : List y0) (l : List y9) (blk id : Int) (ht : TOk t) (hl : l.length ≤ 1048576) : vN (q, t, l, blk, id) = some (ans (ydd t l blk id)) := by
 unfold vN
 simp only [y0O l id hl, y2M q t blk _ ht (y2k l id hl), Option.bind_some]
 rfl
theorem y8U (q : List Int) (t : List y0) (l : List y9) (blk id : Int) (ht : TOk t) (hl : l.length ≤ 1048576) : V5 (q, t, l, blk, id) = some (ans (ydd t l blk id)) := by
 unfold V5
 simp only [y52 l id hl, y55 q t blk _ ht (y2k l id hl), Option.bind_some]
 rfl
def ygY (t : List y0) (l : List y9) (k : y7) (id : Int) : Bool := (ydd t l k.1 id).1 && ((ydd t l k.1 id).2.2.1 == k.2.1)
theorem y8V (q : List Int) (t : List y0) (l : List y9) (k1 k2 k3 k4 k5 id : Int) (ht : TOk t) (hl : l.length ≤ 1048576) : vO (q, t, l, k1, k2, k3, k4, k5, id) = some (ygY t l (k1, k2, k3, k4, k5) id) := by
 unfold vO ygY
 simp only [y8T q t l k1 id ht hl, Option.bind_some, ans]
 cases (ydd t l k1 id).1 <;> rfl
def y7A (t : List y0) (l : List y9) (k : y7) (v : yc) : Bool := decide (v.2.2.1 > k.1) && ygY t l k v.2.1
def yaP (t : List y0) (l : List y9) (vs : List yc) (k : y7) : Bool := decide (0 ≤ zX (y7A t l k) vs 0)
theorem y2l (q : List Int) (t : List y0) (l : List y9) (cs : List y8) (vs : List yc) (z k1 k2 k3 k4 k5 : Int) (ht : TOk t) (hl : l.length ≤ 1048576) (hv : vs.length ≤ 1048576) : jP (q, t, l, cs, vs, z, k1, k2, k3, k4, k5) = some (yaP t l vs (k1, k2, k3, k4, k5)) := by
 unfold jP Vr
 refine (YU (step := Zq _ _) (fun i => (i, q, t, l, cs, vs, z, k1, k2, k3, k4, k5)) (y7A t l (k1, k2, k3, k4, k5)) (fun _ => some true) (some false) yp vs (by omega) ?_ ?_).trans ?_
 ·intro again i h0 h1
  have hw : Go.IntKind.wrap .i64 (i + 1) = i + 1 := w64 (by omega) (by omega)
  unfold Zq y7A
  obtain ⟨⟨x1, x2, x3, x4⟩, hx⟩ : ∃ x, ya vs i = x := ⟨_, rfl⟩
  have hx' : vs.getD i.toNat yp = (x1, x2, x3, x4) := hx
  rw [hx']
  have e := y8V q t l k1 k2 k3 k4 k5 x2 ht hl
  simp only [Bool.cond_eq_ite, decide_eq_true_eq, h0, h1, if_true, hw, hx, e, Option.bind_some]
  by_cases hb : x3 > k1 <;> cases ygY t l (k1, k2, k3, k4, k5) x2 <;> simp [hb]
 ·intro again i hi
  unfold Zq
  simp only [Bool.cond_eq_ite, decide_eq_true_eq, if_neg hi]
 ·unfold yaP
  by_cases h : zX (y7A t l (k1, k2, k3, k4, k5)) vs 0 < 0
  ·rw [if_pos h, decide_eq_false (by omega)]
  ·rw [if_neg h, decide_eq_true (by omega)]
end Go.Proofs.YtgediecndaheiaaGreat.Pl
namespace Go.Proofs.YtgediecndaheiaaGreat.Pl
open Go.Proofs.YtgediecndaheiaaGreat.R Go.Proofs.YtgediecndaheiaaGreat.XS
def YE (k : y7) : Bool := inR k.1 0 15 && (inR k.2.1 1 60 && (inR k.2.2.1 0 2 && (if k.2.2.1 = 1 then inR k.2.2.2.1 0 23 && inR k.2.2.2.2 0 999 else (k.2.2.2.1 == 0) && (k.2.2.2.2 == 0))))
theorem y1J (a b c d e : Int) : W8 (a, b, c, d, e) = some (YE (a, b, c, d, e)) := by
 unfold W8 YE
 simp only [Z8, Option.bind_some]
 by_cases hc : c = 1
 ·subst hc
  cases inR a 0 15 <;> cases inR b 1 60 <;> cases inR 1 0 2 <;> cases inR d 0 23 <;> rfl
 ·have hc' : (c == 1) = false := by simpa using hc
  rw [hc', if_neg hc]
  cases inR a 0 15 <;> cases inR b 1 60 <;> cases inR c 0 2 <;> cases (d == 0) <;> rfl
theorem y1K (a b c d e : Int) : Wa (a, b, c, d, e) = some (YE (a, b, c, d, e)) := by
 unfold Wa YE
 simp only [ZF, Option.bind_some]
 by_cases hc : c = 1
 ·subst hc
  cases inR a 0 15 <;> cases inR b 1 60 <;> cases inR 1 0 2 <;> cases inR d 0 23 <;> rfl
 ·have hc' : (c != 1) = true := by simpa using hc
  rw [hc', if_neg hc]
  cases inR a 0 15 <;> cases inR b 1 60 <;> cases inR c 0 2 <;> cases (d == 0) <;> rfl
def wj (l : List y7) (i : Int) (a : y7) : Bool := decide (0 < i) && !wY (l.getD (i - 1).toNat yL) a
def Wd (l : List y7) : Bool := !YK (fun _ a => !YE a) l 0 && (!YK (wj l) l 0 && decide ((l.length : Int) ≤ 60))
theorem y7B (l : List y7) (hl : l.length ≤ 1073741824) : wq l = some (!YK (wj l) l 0) := by
 unfold wq Q0
 have key := y4e (step := jH (fun x2 => some x2) (fun x3 => some true)) (fun i (_ : Unit) => (l, i)) (fun i (s : Unit) a => if (decide (0 < i) && !wY (l.getD (i - 1).toNat yL) a) = true ∨ i = 0 then .error (some false) else .ok s) (fun _ => some true) yL l (by omega) (fun i _ => 1 ≤ i) ?_ ?_ 1 (by omega) () (by decide)
 ·rw [key]
  have h1 : YK (wj l) l 0 = YK (wj l) (l.drop 1) 1 := by
   cases l with
   | nil => rfl
   | cons a l => simp [YK, wj]
  rw [h1]
  have h2 := y3v (fun i a => decide ((decide (0 < i) && !wY (l.getD (i - 1).toNat yL) a) = true ∨ i = 0)) (fun (s : Unit) _ => s) (some false) (fun _ => some true) (l.drop 1) 1 ()
  simp only [decide_eq_true_eq] at h2
  rw [show (1 : Int).toNat = 1 from rfl, h2]
  have h3 : YK (fun i a => decide ((decide (0 < i) && !wY (l.getD (i - 1).toNat yL) a) = true ∨ i = 0)) (l.drop 1) 1 = YK (wj l) (l.drop 1) 1 := y5R _ _ fun j a hj => by
   unfold wj
   have : ¬ j = 0 := by omega
   simp [this]
  rw [h3]
  cases YK (wj l) (l.drop 1) 1 <;> rfl
 ·intro again i s h0 h1 hI
  have hi : 1 ≤ i := by
   have : (1 : Nat) ≤ i.toNat := hI
   omega
  have hw : Go.IntKind.wrap .i64 (i + 1) = i + 1 := w64 (by omega) (by omega)
  have hm : Go.IntKind.wrap .i64 (i - 1) = i - 1 := w64 (by omega) (by omega)
  refine ⟨?_, fun _ _ => by omega⟩
  unfold jH
  obtain ⟨⟨x1, x2, x3, x4, x5⟩, hx⟩ : ∃ x, y6 l i = x := ⟨_, rfl⟩
  have hx' : l.getD i.toNat yL = (x1, x2, x3, x4, x5) := hx
  obtain ⟨⟨y1, y2, y3, y4, y5⟩, hy⟩ : ∃ y, y6 l (i - 1) = y := ⟨_, rfl⟩
  have hy' : l.getD (i - 1).toNat yL = (y1, y2, y3, y4, y5) := hy
  rw [hx', hy']
  have h3 : 0 ≤ i - 1 := by omega
  have h4 : i - 1 < (l.length : Int) := by omega
  have h5 : 0 < i := by omega
  have h6 : ¬ i = 0 := by omega
  simp only [Bool.cond_eq_ite, decide_eq_true_eq, h0, h1, if_true, hw, hm, hx, hy, h3, h4, h5, h6, y03, Option.bind_some, decide_true, Bool.true_and, or_false]
  cases wY (y1, y2, y3, y4, y5) (x1, x2, x3, x4, x5) <;> rfl
 ·intro again i s hi
  unfold jH
  simp only [Bool.cond_eq_ite, decide_eq_true_eq, if_neg hi]
theorem y7C (l : List y7) (hl : l.length ≤ 1073741824) : Kz l = some (Wd l) := by
 unfold Kz y0H Wd
 refine (zU (step := ws _ _) (fun i => (l, i)) (fun _ a => !YE a) (some false) (some (!YK (wj l) l 0 && decide ((l.length : Int) ≤ 60))) yL l (by omega) ?_ ?_).trans ?_
 ·intro again i h0 h1
  have hw : Go.IntKind.wrap .i64 (i + 1) = i + 1 := w64 (by omega) (by omega)
  unfold ws
  obtain ⟨⟨x1, x2, x3, x4, x5⟩, hx⟩ : ∃ x, y6 l i = x := ⟨_, rfl⟩
  have hx' : l.getD i.toNat yL = (x1, x2, x3, x4, x5) := hx
  rw [hx']
  simp only [Bool.cond_eq_ite, decide_eq_true_eq, h0, h1, if_true, hw, hx, y1J, Option.bind_some]
 ·intro again i hi
  unfold ws
  simp only [Bool.cond_eq_ite, decide_eq_true_eq, if_neg hi, y7B l hl, Option.bind_some]
  cases YK (wj l) l 0 <;> rfl
 ·cases YK (fun _ a => !YE a) l 0 <;> rfl
theorem y7D (l : List y7) (hl : l.length ≤ 1073741824) : KB l = some (Wd l) := by
 unfold KB y0M Wd
 refine (zU (step := wF _ _) (fun i => (l, l, (l.length : Int), i)) (fun i a => !YE a || wj l i a) (some false) (some (decide ((l.length : Int) ≤ 60))) yL l (by omega) ?_ ?_).trans ?_
 ·intro again i h0 h1
  have hw : Go.IntKind.wrap .i64 (i + 1) = i + 1 := w64 (by omega) (by omega)
  have hm : Go.IntKind.wrap .i64 (i - 1) = i - 1 := w64 (by omega) (by omega)
  unfold wF wj
  obtain ⟨⟨x1, x2, x3, x4, x5⟩, hx⟩ : ∃ x, y6 l i = x := ⟨_, rfl⟩
  have hx' : l.getD i.toNat yL = (x1, x2, x3, x4, x5) := hx
  obtain ⟨⟨y1, y2, y3, y4, y5⟩, hy⟩ : ∃ y, y6 l (i - 1) = y := ⟨_, rfl⟩
  have hy' : l.getD (i - 1).toNat yL = (y1, y2, y3, y4, y5) := hy
  rw [hx', hy']
  simp only [Bool.cond_eq_ite, decide_eq_true_eq, h0, h1, if_true, hw, hm, hx, hy, y1K, y04, Option.bind_some]
  cases YE (x1, x2, x3, x4, x5)
  ·rfl
  ·by_cases h5 : 0 < i
   ·have h3 : 0 ≤ i - 1 := by omega
    have h4 : i - 1 < (l.length : Int) := by omega
    simp only [gt_iff_lt, h5, h3, h4, if_true, decide_true]
    cases wY (y1, y2, y3, y4, y5) (x1, x2, x3, x4, x5) <;> rfl
   ·simp [h5]
 ·intro again i hi
  unfold wF
  simp only [Bool.cond_eq_ite, decide_eq_true_eq, if_neg hi]
 ·rw [yaO]
  cases YK (fun _ a => !YE a) l 0 <;> cases YK (wj l) l 0 <;> rfl
def y1L (_ : Int) (a : yb) : Bool := !Wd a || ((List.length a : Int) == 0)
def y0P (s : Int) (a : yb) : Int := Go.IntKind.wrap .i64 (s + (List.length a : Int))
def YF (n : List yb) : Bool := !YK y1L n 0 && (decide ((n.length : Int) ≤ 3) && decide (n.foldl y0P 0 ≤ 8))
theorem y7E (n : List yb) (hn : n.length ≤ 1073741824) : wu n = some (n.foldl y0P 0) := by
 unfold wu Q1
 refine Ya (step := jI _) (fun (i s : Int) => (s, i, n)) (fun s => some s) yW y0P n (by omega) (fun _ _ => True) ?_ ?_ 0 trivial
 ·intro again i s h0 h1 _
  have hw : Go.IntKind.wrap .i64 (i + 1) = i + 1 := w64 (by omega) (by omega)
  refine ⟨?_, trivial⟩
  unfold jI
  simp only [Bool.cond_eq_ite, decide_eq_true_eq, h0, h1, if_true, hw]
  rfl
 ·intro again i s hi
  unfold jI
  simp only [Bool.cond_eq_ite, decide_eq_true_eq, if_neg hi]
theorem VJ (n : List yb) (hn : n.length ≤ 1073741824) (hm : ∀ s ∈ n, List.length s ≤ 1073741824) : zm n = some (YF n) := by
 unfold zm Qw YF
 refine (zU (step := Jh _ _) (fun i => (i, n)) y1L (some false) (some (decide ((n.length : Int) ≤ 3) && decide (n.foldl y0P 0 ≤ 8))) yW n (by omega) ?_ ?_).trans ?_
 ·intro again i h0 h1
  have hw : Go.IntKind.wrap .i64 (i + 1) = i + 1 := w64 (by omega) (by omega)
  have e := y7C (ym n i) (hm _ (yI yW n i h0 h1))
  unfold Jh y1L
  have hx : n.getD i.toNat yW = ym n i := rfl
  rw [hx]
  simp only [Bool.cond_eq_ite, decide_eq_true_eq, h0, h1, if_true, hw, e, Option.bind_some]
  cases Wd (ym n i)
  ·rfl
  ·rfl
 ·intro again i hi
  unfold Jh
  simp only [Bool.cond_eq_ite, decide_eq_true_eq, if_neg hi, y7E n hn, Option.bind_some]
  by_cases h3 : (n.length : Int) ≤ 3 <;> simp [h3]
 ·cases YK y1L n 0 <;> rfl
theorem VK (n : List yb) (hn : n.length ≤ 1073741824) (hm : ∀ s ∈ n, List.length s ≤ 1073741824) : zJ n = some (YF n) := by
 unfold zJ QO YF
 refine (y3w (step := Jx _ _) (fun (i s : Int) => (s, n, (n.length : Int), i, n)) y1L y0P (some false) (fun s => some (decide ((n.length : Int) ≤ 3) && decide (s ≤ 8))) yW n (by omega) ?_ ?_ 0).trans ?_
 ·intro again i s h0 h1
  have hw : Go.IntKind.wrap .i64 (i + 1) = i + 1 := w64 (by omega) (by omega)
  have e := y7D (ym n i) (hm _ (yI yW n i h0 h1))
  unfold Jx y1L y0P
  have hx : n.getD i.toNat yW = ym n i := rfl
  rw [hx]
  simp only [Bool.cond_eq_ite, decide_eq_true_eq, h0, h1, if_true, hw, e, Option.bind_some]
  cases Wd (ym n i)
  ·rfl
  ·rfl
 ·intro again i s hi
  unfold Jx
  simp only [Bool.cond_eq_ite, decide_eq_true_eq, if_neg hi]
  by_cases h3 : (n.length : Int) ≤ 3 <;> simp [h3]
 ·cases YK y1L n 0 <;> rfl
end Go.Proofs.YtgediecndaheiaaGreat.Pl
namespace Go.Proofs.YtgediecndaheiaaGreat.Pl
open Go.Proofs.YtgediecndaheiaaGreat.R Go.Proofs.YtgediecndaheiaaGreat.XS
def small (is : List yd) (ns : List y0) (ags : List y9) (cs : List y8) (vs : List yc) : Prop :=
 is.length ≤ 1048576 ∧ ns.length ≤ 1048576 ∧ km Qi ns ≤ 1048576 ∧ ags.length ≤ 1048576 ∧ cs.length ≤ 1048576 ∧ vs.length ≤ 1048576
theorem ve {ns : List y0} (h : km Qi ns ≤ 1048576) {n : List yb} (hn : n ∈ ns) : n.length ≤ 1048576 ∧ ∀ s ∈ n, List.length s ≤ 1048576 := by
 have h1 := (y0q KC hn).1
 have h2 := wX K7 n
 have h3 : Qi n = (List.length n : Int) + km VS n := rfl
 refine ⟨by omega, fun s hs => ?_⟩
 have h4 := (y0q K7 hs).1
 have h5 : VS s = (List.length s : Int) := rfl
 omega
end Go.Proofs.YtgediecndaheiaaGreat.Pl
namespace Go.Proofs.YtgediecndaheiaaGreat.Pl
open Go.Proofs.YtgediecndaheiaaGreat.R Go.Proofs.YtgediecndaheiaaGreat.XS
def Qj (a : y7) : Int := Go.IntKind.wrap .i64 (Go.IntKind.wrap .i64 ((64 : Int) * a.1) + a.2.1)
def yiS (q : List Int) (i : Int) (_ : Int) (a : y7) : Bool := decide (Qj a < q.getD i.toNat 0) || (decide (i + 1 < (q.length : Int)) && decide (Qj a ≥ q.getD (i + 1).toNat 0))
theorem TOk.node {t : List y0} (h : TOk t) {n : List yb} (hn : n ∈ t) : n.length ≤ 1048576 ∧ ∀ s ∈ n, List.length s ≤ 1048576 := ve h.sum hn
theorem TOk.sumK {t : List y0} (h : TOk t) {n : List yb} (hn : n ∈ t) : km VS n ≤ 1048576 := by
 have h1 := (y0q KC hn).1
 have h2 := y1I n
 have h3 := h.sum
 omega
theorem yde {R : Type} (k0 : (Int × Bool × Int × List yd × List y0 × List yb) → Option R) (k1 : (Int × Int × List yd × List y0 × List yb) → Option R) (i k : Int) (q : List Int) (t : List y0) (n : List yb) (hk0 : 0 ≤ k) (hk : k < (n.length : Int)) (hi0 : 0 ≤ i) (hi : i < (q.length : Int)) (hq : q.length ≤ 1048576) (hs : List.length (ym n k) ≤ 1048576) :
  vy k0 k1 (i, k, 0, q, t, n) = if YK (yiS q i) (ym n k) 0 = true then k0 (i, false, k, q, t, n) else k1 (i, k, q, t, n) := by
 unfold vy
 refine zU (step := Ji k0 k1) (fun j => (i, k, j, q, t, n)) (yiS q i) _ _ yL (ym n k) (by omega) ?_ ?_
 ·intro again j h0 h1
  have hw : Go.IntKind.wrap .i64 (j + 1) = j + 1 := w64 (by omega) (by omega)
  have hwi : Go.IntKind.wrap .i64 (i + 1) = i + 1 := w64 (by omega) (by omega)
  unfold Ji yiS JX JW Qj
  obtain ⟨⟨x1, x2, x3, x4, x5⟩, hx⟩ : ∃ x, y6 (ym n k) j = x := ⟨_, rfl⟩
  have hx' : (ym n k).getD j.toNat yL = (x1, x2, x3, x4, x5) := hx
  have e1 : q.getD i.toNat 0 = zw q i := rfl
  have e2 : q.getD (i + 1).toNat 0 = zw q (i + 1) := rfl
  rw [hx', e1, e2]
  have hi1 : 0 ≤ i + 1 := by omega
  simp only [Bool.cond_eq_ite, decide_eq_true_eq, h0, h1, hk0, hk, hi0, hi, hi1, if_true, hw, hwi, hx, Option.bind_some]
  by_cases h2 : Go.IntKind.wrap .i64 (Go.IntKind.wrap .i64 ((64 : Int) * x1) + x2) < zw q i
  ·simp [h2]
  ·by_cases h3 : i + 1 < (q.length : Int)
   ·simp [h2, h3]
   ·simp [h2, h3]
 ·intro again j hj
  unfold Ji
  simp only [Bool.cond_eq_ite, decide_eq_true_eq, hk0, hk, if_true, if_neg hj]
def yaQ (q : List Int) (i : Int) (_ : Int) (s : yb) : Bool := YK (yiS q i) s 0
def ybW (n : y0) : Bool := ((yE n).length : Int) == 0
def y56 (q : List Int) (i : Int) (n : y0) : Bool := YF n && (!(decide (0 < i) && ybW n) && !YK (yaQ q i) n 0)
theorem y57 (q : List Int) (t : List y0) (i : Int) (ht : TOk t) (hi0 : 0 ≤ i) (hi : i < (t.length : Int)) (hq : q.length = t.length) : Ww (q, t, i) = some (y56 q i (ye t i)) := by
 have hmem : ye t i ∈ t := yI yi t i hi0 hi
 obtain ⟨hn, hs⟩ := ht.node hmem
 have hlen := ht.len
 have hq1 : i < (q.length : Int) := by omega
 have hq2 : q.length ≤ 1048576 := by omega
 have e1 := VJ (ye t i) (by omega) (fun s hh => by have := hs s hh; omega)
 have e2 : yA (ye t i) = some (yE (ye t i)) := Zg _ (by omega) (ht.sumK hmem)
 unfold Ww y56 ybW
 simp only [hi0, hi, if_true, e1, Option.bind_some]
 generalize ye t i = n at *
 cases YF n
 ·rfl
 ·have key : vA (fun x10 => some x10) (fun x11 => some true) (i, 0, q, t, n) = some (!YK (yaQ q i) n 0) := by
   unfold vA
   refine (zU (step := Jj _ _) (fun k => (i, k, q, t, n)) (yaQ q i) (some false) (some true) yW n (by omega) ?_ ?_).trans ?_
   ·intro again k h0 h1
    have hw : Go.IntKind.wrap .i64 (k + 1) = k + 1 := w64 (by omega) (by omega)
    have hsk : List.length (ym n k) ≤ 1048576 := hs _ (yI yW n k h0 h1)
    unfold Jj yaQ
    have hx : n.getD k.toNat yW = ym n k := rfl
    rw [hx]
    simp only [Bool.cond_eq_ite, decide_eq_true_eq, h1, if_true, yde _ _ i k q t n h0 h1 hi0 hq1 hq2 hsk, hw]
   ·intro again k hk
    unfold Jj
    simp only [Bool.cond_eq_ite, decide_eq_true_eq, if_neg hk]
   ·cases YK (yaQ q i) n 0 <;> rfl
  simp only [key, e2, Option.bind_some, Bool.not_true, cond_false, gt_iff_lt]
  by_cases h0 : 0 < i
  ·simp only [h0, decide_true, cond_true, Bool.true_and]
   cases (((yE n).length : Int) == 0) <;> rfl
  ·simp only [h0, decide_false, cond_false, Bool.false_and]
   rfl
theorem ydf {R : Type} (k0 : (Int × Bool × List yb × Int × Int × List yd × List y0) → Option R) (k1 : (Int × List yb × Int × Int × List yd × List y0) → Option R) (i k m : Int) (q : List Int) (t : List y0) (n : List yb) (s : List y7) (hi0 : 0 ≤ i) (hi : i < (q.length : Int)) (hq : q.length ≤ 1048576) (hs : s.length ≤ 1048576) :
  kU k0 k1 (i, n, m, k, s, (s.length : Int), 0, q, t) = if YK (yiS q i) s 0 = true then k0 (i, false, n, m, k, q, t) else k1 (i, n, m, k, q, t) := by
 unfold kU
 refine zU (step := j6 k0 k1) (fun j => (i, n, m, k, s, (s.length : Int), j, q, t)) (yiS q i) _ _ yL s (by omega) ?_ ?_
 ·intro again j h0 h1
  have hw : Go.IntKind.wrap .i64 (j + 1) = j + 1 := w64 (by omega) (by omega)
  have hwi : Go.IntKind.wrap .i64 (i + 1) = i + 1 := w64 (by omega) (by omega)
  unfold j6 yiS Zv Qj
  obtain ⟨⟨x1, x2, x3, x4, x5⟩, hx⟩ : ∃ x, y6 s j = x := ⟨_, rfl⟩
  have hx' : s.getD j.toNat yL = (x1, x2, x3, x4, x5) := hx
  have e1 : q.getD i.toNat 0 = zw q i := rfl
  have e2 : q.getD (i + 1).toNat 0 = zw q (i + 1) := rfl
  rw [hx', e1, e2]
  have hi1 : 0 ≤ i + 1 := by omega
  simp only [Bool.cond_eq_ite, decide_eq_true_eq, h0, h1, hi0, hi, hi1, if_true, hw, hwi, hx, Option.bind_some]
  by_cases h2 : Go.IntKind.wrap .i64 (Go.IntKind.wrap .i64 ((64 : Int) * x1) + x2) < zw q i
  ·simp [h2]
  ·by_cases h3 : i + 1 < (q.length : Int)
   ·simp [h2, h3]
   ·simp [h2, h3]
 ·intro again j hj
  unfold j6
  simp only [Bool.cond_eq_ite, decide_eq_true_eq, if_neg hj]
theorem y33 (q : List Int) (t : List y0) (i : Int) (ht : TOk t) (hi0 : 0 ≤ i) (hi : i < (t.length : Int)) (hq : q.length = t.length) : Jy (q, t, i) = some (!YK (yaQ q i) (ye t i) 0) := by
 have hmem : ye t i ∈ t := yI yi t i hi0 hi
 obtain ⟨hn, hs⟩ := ht.node hmem
 have hlen := ht.len
 have hq1 : i < (q.length : Int) := by omega
 have hq2 : q.length ≤ 1048576 := by omega
 unfold Jy qf
 simp only [hi0, hi, if_true]
 generalize ye t i = n at *
 refine (zU (step := j7 _ _) (fun k => (i, n, (n.length : Int), k, q, t)) (yaQ q i) (some false) (some true) yW n (by omega) ?_ ?_).trans ?_
 ·intro again k h0 h1
  have hw : Go.IntKind.wrap .i64 (k + 1) = k + 1 := w64 (by omega) (by omega)
  have hsk : List.length (ym n k) ≤ 1048576 := hs _ (yI yW n k h0 h1)
  unfold j7 yaQ
  have hx : n.getD k.toNat yW = ym n k := rfl
  rw [hx]
  simp only [Bool.cond_eq_ite, decide_eq_true_eq, h0, h1, if_true, ydf _ _ i k (n.length : Int) q t n _ hi0 hq1 hq2 hsk, hw]
 ·intro again k hk
  unfold j7
  simp only [Bool.cond_eq_ite, decide_eq_true_eq, if_neg hk]
 ·cases YK (yaQ q i) n 0 <;> rfl
def yf0 (q : List Int) (i : Int) : Bool := decide (0 < i) && decide (q.getD (i - 1).toNat 0 ≥ q.getD i.toNat 0)
def VL (q : List Int) (i : Int) (n : y0) : Bool := yf0 q i || !y56 q i n
def y4g (s : Int) (n : y0) : Int := Go.IntKind.wrap .i64 (s + ((yE n).length : Int))
def zv (q : List Int) (t : List y0) : Bool :=
 inR (t.length : Int) 1 20 && (decide (q.length = t.length) && ((q.getD 0 0 == 0) && (!YK (VL q) t 0 && decide (((yq t).length : Int) ≤ 60))))
theorem yf1 : ∀ (t : List y0) (s : List y7), (s.length : Int) + km Qi t ≤ 1048576 → t.foldl y4g (s.length : Int) = ((t.foldl kn s).length : Int)
 | [], _, _ => rfl
 | n :: t, s, h => by
  rw [Yi] at h
  have h1 := KD n
  have h2 := y1I n
  have h3 := wX KC t
  have h4 : (kn s n).length = s.length + (yE n).length := List.length_append
  rw [List.foldl_cons, List.foldl_cons, show y4g (s.length : Int) n = ((kn s n).length : Int) by
   unfold y4g
   rw [h4, w64 (by omega) (by omega)]
   omega]
  exact yf1 t (kn s n) (by rw [h4]; omega)
theorem VM (q : List Int) (t : List y0) (ht : TOk t) : Yv (q, t) = some (zv q t) := by
 have hlen := ht.len
 unfold Yv zv
 simp only [Z8, Option.bind_some]
 cases h1 : inR (t.length : Int) 1 20
 ·rfl
 by_cases hq : q.length = t.length
 ·have hq' : ((q.length : Int) != (t.length : Int)) = false := by simp [hq]
  have hpos : 0 < (q.length : Int) := by
   have := (zp.1 h1).1
   omega
  have hd : decide (q.length = t.length) = true := by simp [hq]
  simp only [hq', hd, Bool.not_true, cond_false, cond_true, Option.bind_some, Bool.true_and]
  rw [if_pos (Int.le_refl _), if_pos (by omega)]
  have e0 : zw q 0 = q.getD 0 0 := rfl
  rw [e0]
  try simp only [Option.bind_some]
  by_cases hz : q.getD 0 0 = 0
  ·have hz1 : (q.getD 0 0 != 0) = false := by rw [hz]; rfl
   have hz2 : (q.getD 0 0 == 0) = true := by rw [hz]; rfl
   rw [hz1, hz2]
   simp only [cond_false, Bool.true_and]
   unfold Qx
   refine (zU (step := Jk _ _) (fun i => (i, q, t)) (VL q) (some false) (some (decide (((yq t).length : Int) ≤ 60))) yi t (by omega) ?_ ?_).trans ?_
   ·intro again i h0 h1
    have hw : Go.IntKind.wrap .i64 (i + 1) = i + 1 := w64 (by omega) (by omega)
    have hm : Go.IntKind.wrap .i64 (i - 1) = i - 1 := w64 (by omega) (by omega)
    have e := y57 q t i ht h0 h1 hq
    unfold Jk VL yf0
    have hx : t.getD i.toNat yi = ye t i := rfl
    have e1 : q.getD i.toNat 0 = zw q i := rfl
    have e2 : q.getD (i - 1).toNat 0 = zw q (i - 1) := rfl
    rw [hx, e1, e2]
    simp only [Bool.cond_eq_ite, decide_eq_true_eq, h0, h1, if_true, hw, hm, e, gt_iff_lt]
    by_cases h5 : 0 < i
    ·rw [if_pos h5, if_pos (by omega), if_pos (by omega), if_pos (by omega)]
     simp only [h5, decide_true, Option.bind_some, Bool.true_and]
     cases decide (zw q (i - 1) ≥ zw q i) <;> cases y56 q i (ye t i) <;> rfl
    ·rw [if_neg h5]
     simp only [h5, decide_false, Option.bind_some, Bool.false_and]
     cases y56 q i (ye t i) <;> rfl
   ·intro again i hi
    have e : yN (q, t) = some (yq t) := YO q t (by omega) ht.nodes ht.sum
    unfold Jk
    simp only [Bool.cond_eq_ite, decide_eq_true_eq, if_neg hi, e, Option.bind_some]
   ·cases YK (VL q) t 0 <;> rfl
  ·have hz1 : (q.getD 0 0 != 0) = true := by simpa using hz
   have hz2 : (q.getD 0 0 == 0) = false := by simpa using hz
   rw [hz1, hz2]
   rfl
 ·have hq' : ((q.length : Int) != (t.length : Int)) = true := by
   simp only [bne_iff_ne, ne_eq]
   omega
  have hd : decide (q.length = t.length) = false := by simp [hq]
  simp only [hq', hd, Bool.not_true, cond_false, cond_true, Option.bind_some, Bool.false_and, Bool.and_false]
theorem VN (q : List Int) (t : List y0) (ht : TOk t) : Yx (q, t) = some (zv q t) := by
 have hlen := ht.len
 unfold Yx zv
 simp only [ZF, Option.bind_some]
 cases h1 : inR (t.length : Int) 1 20
 ·rfl
 by_cases hq : q.length = t.length
 ·have hq' : ((q.length : Int) != (t.length : Int)) = false := by simp [hq]
  have hpos : 0 < (q.length : Int) := by
   have := (zp.1 h1).1
   omega
  have hd : decide (q.length = t.length) = true := by simp [hq]
  simp only [hq', hd, Bool.not_true, cond_false, cond_true, Option.bind_some, Bool.true_and]
  rw [if_pos (Int.le_refl _), if_pos (by omega)]
  have e0 : zw q 0 = q.getD 0 0 := rfl
  rw [e0]
  try simp only [Option.bind_some]
  by_cases hz : q.getD 0 0 = 0
  ·have hz1 : (q.getD 0 0 != 0) = false := by rw [hz]; rfl
   have hz2 : (q.getD 0 0 == 0) = true := by rw [hz]; rfl
   rw [hz1, hz2]
   simp only [cond_false, Bool.true_and]
   unfold QP
   refine (y3w (step := Jz _ _) (fun (i s : Int) => (s, t, (t.length : Int), i, q, t)) (VL q) y4g (some false) (fun s => some (decide (s ≤ 60))) yi t (by omega) ?_ ?_ 0).trans ?_
   ·intro again i s h0 h1
    have hmem : ye t i ∈ t := yI yi t i h0 h1
    obtain ⟨hn, hss⟩ := ht.node hmem
    have hw : Go.IntKind.wrap .i64 (i + 1) = i + 1 := w64 (by omega) (by omega)
    have hm : Go.IntKind.wrap .i64 (i - 1) = i - 1 := w64 (by omega) (by omega)
    have e3 := VK (ye t i) (by omega) (fun s hh => by have := hss s hh; omega)
    have e4 := y33 q t i ht h0 h1 hq
    have e5 : yP (ye t i) = some (yE (ye t i)) := jX _ (by omega) (ht.sumK hmem)
    unfold Jz VL yf0 y56 ybW y4g
    have hx : t.getD i.toNat yi = ye t i := rfl
    have e1 : q.getD i.toNat 0 = zw q i := rfl
    have e2 : q.getD (i - 1).toNat 0 = zw q (i - 1) := rfl
    rw [hx, e1, e2]
    simp only [Bool.cond_eq_ite, decide_eq_true_eq, h0, h1, if_true, hw, hm, e3, e4, e5, gt_iff_lt, Option.bind_some]
    by_cases h5 : 0 < i
    ·rw [if_pos h5, if_pos (by omega), if_pos (by omega), if_pos (by omega)]
     simp only [h5, decide_true, Option.bind_some, Bool.true_and, if_true]
     cases decide (zw q (i - 1) ≥ zw q i) <;> cases YF (ye t i) <;> cases YK (yaQ q i) (ye t i) 0 <;> cases (((yE (ye t i)).length : Int) == 0) <;> rfl
    ·rw [if_neg h5]
     simp only [h5, decide_false, Option.bind_some, Bool.false_and, if_false]
     cases YF (ye t i) <;> cases YK (yaQ q i) (ye t i) 0 <;> rfl
   ·intro again i s hi
    unfold Jz
    simp only [Bool.cond_eq_ite, decide_eq_true_eq, if_neg hi]
   ·have := yf1 t [] (by have := ht.sum; simpa using this)
    simp only [List.length_nil] at this
    rw [show ((0 : Nat) : Int) = 0 from rfl] at this
    rw [this]
    unfold yq
    cases YK (VL q) t 0 <;> rfl
  ·have hz1 : (q.getD 0 0 != 0) = true := by simpa using hz
   have hz2 : (q.getD 0 0 == 0) = false := by simpa using hz
   rw [hz1, hz2]
   rfl
 ·have hq' : ((q.length : Int) != (t.length : Int)) = true := by
   simp only [bne_iff_ne, ne_eq]
   omega
  have hd : decide (q.length = t.length) = false := by simp [hq]
  simp only [hq', hd, Bool.not_true, cond_false, cond_true, Option.bind_some, Bool.false_and, Bool.and_false]
end Go.Proofs.YtgediecndaheiaaGreat.Pl
namespace Go.Proofs.YtgediecndaheiaaGreat.Pl
open Go.Proofs.YtgediecndaheiaaGreat.R Go.Proofs.YtgediecndaheiaaGreat.XS
def isW (n : Int) : Bool := inR n 0 65535
theorem Vb (x : Int) : zl x = some (isW x) := by unfold zl; rw [Z8]; rfl
theorem y4h (x : Int) : jB x = some (isW x) := by unfold jB; rw [ZF]; rfl
def y7F (c : Int) : Bool := inR c 97 122 || inR c 48 57
def qM (l : List UInt8) : Bool := l.all fun c => y7F (c.toNat : Int)
def Yf (s : ByteArray) : Bool := qM s.data.toList && inR s.size 1 6
theorem ybX (c : UInt8) : Go.IntKind.wrap .i64 (c.toNat : Int) = c.toNat := by
 have := c.toNat_lt
 exact w64 (by omega) (by omega)
theorem ygZ (s : ByteArray) (i : Nat) (h : i < s.size) : ByteArray.get s i h = s.data.toList[i]'(by rw [Array.length_toList]; exact h) := by
 rw [Array.getElem_toList]
 rfl
theorem y8W (s : ByteArray) (i : Nat) (h : i < s.size) : s.data.toList.drop i = ByteArray.get s i h :: s.data.toList.drop (i + 1) := by
 rw [ygZ, ← List.drop_eq_getElem_cons]
theorem J3 (s : ByteArray) (hs : s.size ≤ maxLen) : Yu s = some (Yf s) := by
 have hm : (s.size : Int) ≤ 9223372036854775807 := by simp only [maxLen] at hs; omega
 unfold Yu Qv
 rw [ZD (fun t : ByteArray × Int => t.1.size - t.2.toNat) (fun t => t.1 = s ∧ 0 ≤ t.2 ∧ t.2 ≤ s.size) (fun t => if qM (t.1.data.toList.drop t.2.toNat) then some (inR s.size 1 6) else some false) ?_ (s, 0) ⟨rfl, by simp, by simp⟩ (by simp only [maxLen] at hs; simp; omega)]
 ·unfold Yf
  cases h : qM s.data.toList <;> simp [h]
 ·rintro again ⟨s', i⟩ ⟨rfl, h0, h1⟩ hag
  simp only at h0 h1 hs hm ⊢
  unfold vt
  simp only [Bool.cond_eq_ite, decide_eq_true_eq]
  by_cases hi : i < (s'.size : Int)
  ·have hn : i.toNat < s'.size := by omega
   rw [if_pos hi, if_pos h0, dif_pos hn]
   simp only [Z8, Option.bind_some, if_pos h0, dif_pos hn, ybX]
   rw [y8W s' i.toNat hn]
   have hw : Go.IntKind.wrap .i64 (i + 1) = i + 1 := w64 (by omega) (by omega)
   have e1 : (i + 1).toNat = i.toNat + 1 := by omega
   have hag' := hag (s', i + 1) ⟨rfl, by simp only; omega, by simp only; omega⟩ (by simp only; omega)
   simp only [qM, List.all_cons, y7F] at hag' ⊢
   rw [hw, hag', e1]
   obtain ⟨c, hc⟩ : ∃ c, ByteArray.get s' i.toNat hn = c := ⟨_, rfl⟩
   simp only [hc]
   cases inR (c.toNat : Int) 97 122 <;> cases inR (c.toNat : Int) 48 57 <;> simp
  ·rw [if_neg hi, List.drop_of_length_le (by rw [Array.length_toList]; show s'.size ≤ _; omega)]
   simp [qM, Z8]
theorem J4 (s : ByteArray) (hs : s.size ≤ maxLen) : Zw s = some (Yf s) := by
 have hm : (s.size : Int) ≤ 9223372036854775807 := by simp only [maxLen] at hs; omega
 unfold Zw QR
 rw [ZD (fun t : ByteArray × Int => t.1.size - t.2.toNat) (fun t => t.1 = s ∧ 0 ≤ t.2 ∧ t.2 ≤ s.size) (fun t => if qM (t.1.data.toList.drop t.2.toNat) then some (inR s.size 1 6) else some false) ?_ (s, 0) ⟨rfl, by simp, by simp⟩ (by simp only [maxLen] at hs; simp; omega)]
 ·unfold Yf
  cases h : qM s.data.toList <;> simp [h]
 ·rintro again ⟨s', i⟩ ⟨rfl, h0, h1⟩ hag
  simp only at h0 h1 hs hm ⊢
  unfold vY
  simp only [Bool.cond_eq_ite, decide_eq_true_eq]
  by_cases hi : i < (s'.size : Int)
  ·have hn : i.toNat < s'.size := by omega
   rw [if_pos hi, if_pos h0, dif_pos hn]
   simp only [ZF, Option.bind_some, if_pos h0, dif_pos hn, ybX]
   rw [y8W s' i.toNat hn]
   have hw : Go.IntKind.wrap .i64 (i + 1) = i + 1 := w64 (by omega) (by omega)
   have e1 : (i + 1).toNat = i.toNat + 1 := by omega
   have hag' := hag (s', i + 1) ⟨rfl, by simp only; omega, by simp only; omega⟩ (by simp only; omega)
   simp only [qM, List.all_cons, y7F] at hag' ⊢
   rw [hw, hag', e1]
   obtain ⟨c, hc⟩ : ∃ c, ByteArray.get s' i.toNat hn = c := ⟨_, rfl⟩
   simp only [hc]
   cases inR (c.toNat : Int) 97 122 <;> cases inR (c.toNat : Int) 48 57 <;> simp
  ·rw [if_neg hi, List.drop_of_length_le (by rw [Array.length_toList]; show s'.size ≤ _; omega)]
   simp [qM, ZF]
end Go.Proofs.YtgediecndaheiaaGreat.Pl
namespace Go.Proofs.YtgediecndaheiaaGreat.Pl
open Go.Proofs.YtgediecndaheiaaGreat.R Go.Proofs.YtgediecndaheiaaGreat.XS
def ydg (l : List y9) (i : Int) : List y9 := List.drop (Int.toNat (0 : Int)) (List.take (Int.toNat i) l)
def y34 (l : List y9) (i : Int) (a : y9) : Bool := !inR a.1 1 60 || ((decide (0 < i) && decide ((l.getD (i - 1).toNat zc).1 ≥ a.1)) || (a.2 != 0 && decide (z9 (ydg l i) a.2 < 0)))
def ji (l : List y9) : Bool := !YK (y34 l) l 0 && decide ((l.length : Int) ≤ 16)
theorem ybY (l : List y9) (i : Int) : (ydg l i).length ≤ l.length := by
 unfold ydg
 simp only [List.length_drop, List.length_take]
 omega
theorem Kp (l : List y9) (hl : l.length ≤ 1048576) : Zk l = some (ji l) := by
 unfold Zk Qy ji
 refine (zU (step := Jl _ _) (fun i => (l, i)) (y34 l) (some false) (some (decide ((l.length : Int) ≤ 16))) zc l (by omega) ?_ ?_).trans ?_
 ·intro again i h0 h1
  have hw : Go.IntKind.wrap .i64 (i + 1) = i + 1 := w64 (by omega) (by omega)
  have hm : Go.IntKind.wrap .i64 (i - 1) = i - 1 := w64 (by omega) (by omega)
  unfold Jl y34
  obtain ⟨⟨x1, x2⟩, hx⟩ : ∃ x, yM l i = x := ⟨_, rfl⟩
  have hx' : l.getD i.toNat zc = (x1, x2) := hx
  have hy : l.getD (i - 1).toNat zc = yM l (i - 1) := rfl
  have e : zP (List.drop (Int.toNat (0 : Int)) (List.take (Int.toNat i) l), x2) = some (z9 (ydg l i) x2) := ZE (ydg l i) x2 (by have := ybY l i; omega)
  rw [hx', hy]
  have h2 : i ≤ (l.length : Int) := by omega
  simp only [Bool.cond_eq_ite, decide_eq_true_eq, h0, h1, h2, if_true, hw, hm, hx, Z8, e, Option.bind_some, Int.le_refl, gt_iff_lt]
  cases inR x1 1 60
  ·rfl
  ·by_cases h5 : 0 < i
   ·have h3 : 0 ≤ i - 1 := by omega
    have h4 : i - 1 < (l.length : Int) := by omega
    simp only [h5, h3, h4, if_true, decide_true]
    cases decide ((yM l (i - 1)).1 ≥ x1) <;> cases (x2 != 0) <;> cases decide (z9 (ydg l i) x2 < 0) <;> rfl
   ·simp only [h5, if_false, decide_false]
    cases (x2 != 0) <;> cases decide (z9 (ydg l i) x2 < 0) <;> rfl
 ·intro again i hi
  unfold Jl
  simp only [Bool.cond_eq_ite, decide_eq_true_eq, if_neg hi]
 ·cases YK (y34 l) l 0 <;> rfl
theorem y0Q (l : List y9) (hl : l.length ≤ 1048576) : jA l = some (ji l) := by
 unfold jA QQ ji
 refine (zU (step := JA _ _) (fun i => (l, l, (l.length : Int), i)) (y34 l) (some false) (some (decide ((l.length : Int) ≤ 16))) zc l (by omega) ?_ ?_).trans ?_
 ·intro again i h0 h1
  have hw : Go.IntKind.wrap .i64 (i + 1) = i + 1 := w64 (by omega) (by omega)
  have hm : Go.IntKind.wrap .i64 (i - 1) = i - 1 := w64 (by omega) (by omega)
  unfold JA y34
  obtain ⟨⟨x1, x2⟩, hx⟩ : ∃ x, yM l i = x := ⟨_, rfl⟩
  have hx' : l.getD i.toNat zc = (x1, x2) := hx
  have hy : l.getD (i - 1).toNat zc = yM l (i - 1) := rfl
  have e : YB (List.drop (Int.toNat (0 : Int)) (List.take (Int.toNat i) l), x2) = some (z9 (ydg l i) x2) := ko (ydg l i) x2 (by have := ybY l i; omega)
  rw [hx', hy]
  have h2 : i ≤ (l.length : Int) := by omega
  simp only [Bool.cond_eq_ite, decide_eq_true_eq, h0, h1, h2, if_true, hw, hm, hx, ZF, e, Option.bind_some, Int.le_refl, gt_iff_lt]
  cases inR x1 1 60
  ·rfl
  ·by_cases h5 : 0 < i
   ·have h3 : 0 ≤ i - 1 := by omega
    have h4 : i - 1 < (l.length : Int) := by omega
    simp only [h5, h3, h4, if_true, decide_true]
    cases decide ((yM l (i - 1)).1 ≥ x1) <;> cases (x2 != 0) <;> cases decide (z9 (ydg l i) x2 < 0) <;> rfl
   ·simp only [h5, if_false, decide_false]
    cases (x2 != 0) <;> cases decide (z9 (ydg l i) x2 < 0) <;> rfl
 ·intro again i hi
  unfold JA
  simp only [Bool.cond_eq_ite, decide_eq_true_eq, if_neg hi]
 ·cases YK (y34 l) l 0 <;> rfl
def qo (id : Int) (s : List Int) (a : y9) : List Int := if (a.2 == id && id != 0) = true then s ++ [a.1] else s
def Yj (l : List y9) (id : Int) : List Int := l.foldl (qo id) []
theorem y5S (id : Int) (s : List Int) (a : y9) : (qo id s a).length ≤ s.length + 1 := by
 unfold qo
 split <;> simp
theorem Kq (l : List y9) (id : Int) (hl : l.length ≤ 1048576) : jt (l, id) = some (Yj l id) := by
 unfold jt Qz Yj
 refine Ya (step := Jm _) (fun (i : Int) (s : List Int) => (l, id, i, s)) (fun s => some s) zc (qo id) l (by omega) (fun i s => s.length ≤ i) ?_ ?_ [] (by simp)
 ·intro again i s h0 h1 hI
  have hw : Go.IntKind.wrap .i64 (i + 1) = i + 1 := w64 (by omega) (by omega)
  have hs := y5S id s (l.getD i.toNat zc)
  refine ⟨?_, by omega⟩
  have c1 : (s.length + 1) * 8 < 140737488355328 := by omega
  clear hs
  unfold Jm qo
  obtain ⟨⟨x1, x2⟩, hx⟩ : ∃ x, yM l i = x := ⟨_, rfl⟩
  have hx' : l.getD i.toNat zc = (x1, x2) := hx
  rw [hx']
  simp only [Bool.cond_eq_ite, decide_eq_true_eq, h0, h1, if_true, hw, hx, List.length_cons, List.length_nil, Nat.zero_add, c1]
  cases (x2 == id) <;> cases (id != 0) <;> rfl
 ·intro again i s hi
  unfold Jm
  simp only [Bool.cond_eq_ite, decide_eq_true_eq, if_neg hi]
theorem yf2 (l : List y9) : Yj l 0 = [] := by
 have : ∀ (l : List y9) (s : List Int), l.foldl (qo 0) s = s := by
  intro l
  induction l with
  | nil => intro s; rfl
  | cons a l ih =>
   intro s
   rw [List.foldl_cons, ih]
   unfold qo
   simp
 exact this l []
theorem y58 (l : List y9) (id : Int) (hl : l.length ≤ 1048576) : WV (l, id) = some (Yj l id) := by
 unfold WV
 by_cases hid : id = 0
 ·subst hid
  rw [yf2]
  rfl
 ·have hid1 : (id == 0) = false := by simpa using hid
  have hid2 : (id != 0) = true := by simpa using hid
  simp only [hid1, cond_false]
  unfold QS Yj
  refine Ya (step := JB _) (fun (i : Int) (s : List Int) => (id, l, (l.length : Int), i, s)) (fun s => some s) zc (qo id) l (by omega) (fun i s => s.length ≤ i) ?_ ?_ [] (by simp)
  ·intro again i s h0 h1 hI
   have hw : Go.IntKind.wrap .i64 (i + 1) = i + 1 := w64 (by omega) (by omega)
   have hs := y5S id s (l.getD i.toNat zc)
   refine ⟨?_, by omega⟩
   have c1 : (s.length + 1) * 8 < 140737488355328 := by omega
   clear hs
   unfold JB qo
   obtain ⟨⟨x1, x2⟩, hx⟩ : ∃ x, yM l i = x := ⟨_, rfl⟩
   have hx' : l.getD i.toNat zc = (x1, x2) := hx
   rw [hx']
   simp only [Bool.cond_eq_ite, decide_eq_true_eq, h0, h1, if_true, hw, hx, List.length_cons, List.length_nil, Nat.zero_add, c1, hid2]
   cases (x2 == id) <;> rfl
  ·intro again i s hi
   unfold JB
   simp only [Bool.cond_eq_ite, decide_eq_true_eq, if_neg hi]
def y8X (_ : Int) (a : y8) : Bool := !inR a.1 0 999 || (!isW a.2.2 || (!a.2.1 && a.2.2 != 0))
def zA (l : List y8) : Bool := !YK y8X l 0 && ((l.length : Int) == 24)
theorem JP (l : List y8) (hl : l.length ≤ 1048576) : ZJ l = some (zA l) := by
 unfold ZJ Q2 zA
 refine (zU (step := jJ _ _) (fun i => (l, i)) y8X (some false) (some ((l.length : Int) == 24)) yS l (by omega) ?_ ?_).trans ?_
 ·intro again i h0 h1
  have hw : Go.IntKind.wrap .i64 (i + 1) = i + 1 := w64 (by omega) (by omega)
  unfold jJ y8X
  obtain ⟨⟨x1, x2, x3⟩, hx⟩ : ∃ x, yo l i = x := ⟨_, rfl⟩
  have hx' : l.getD i.toNat yS = (x1, x2, x3) := hx
  rw [hx']
  simp only [Bool.cond_eq_ite, decide_eq_true_eq, h0, h1, if_true, hw, hx, Z8, Vb, Option.bind_some]
  cases inR x1 0 999 <;> cases isW x3 <;> cases x2 <;> cases (x3 != 0) <;> rfl
 ·intro again i hi
  unfold jJ
  simp only [Bool.cond_eq_ite, decide_eq_true_eq, if_neg hi]
 ·cases YK y8X l 0 <;> rfl
theorem Vc (l : List y8) (hl : l.length ≤ 1048576) : ZM l = some (zA l) := by
 unfold ZM Q7 zA
 refine (zU (step := jR _ _) (fun i => (l, l, (l.length : Int), i)) y8X (some false) (some ((l.length : Int) == 24)) yS l (by omega) ?_ ?_).trans ?_
 ·intro again i h0 h1
  have hw : Go.IntKind.wrap .i64 (i + 1) = i + 1 := w64 (by omega) (by omega)
  unfold jR y8X
  obtain ⟨⟨x1, x2, x3⟩, hx⟩ : ∃ x, yo l i = x := ⟨_, rfl⟩
  have hx' : l.getD i.toNat yS = (x1, x2, x3) := hx
  rw [hx']
  simp only [Bool.cond_eq_ite, decide_eq_true_eq, h0, h1, if_true, hw, hx, ZF, y4h, Option.bind_some]
  cases inR x1 0 999 <;> cases isW x3 <;> cases x2 <;> cases (x3 != 0) <;> rfl
 ·intro again i hi
  unfold jR
  simp only [Bool.cond_eq_ite, decide_eq_true_eq, if_neg hi]
 ·cases YK y8X l 0 <;> rfl
def qN (s : Int) (a : y8) : Int := if a.2.1 = true then Go.IntKind.wrap .i64 (s + 1) else s
def y59 (l : List y8) : Int := l.foldl qN 0
theorem y8Y (l : List y8) (hl : l.length ≤ 1048576) : jM l = some (y59 l) := by
 unfold jM Vq y59
 refine Ya (step := Zl _) (fun (i s : Int) => (l, s, i)) (fun s => some s) yS qN l (by omega) (fun _ _ => True) ?_ ?_ 0 trivial
 ·intro again i s h0 h1 _
  have hw : Go.IntKind.wrap .i64 (i + 1) = i + 1 := w64 (by omega) (by omega)
  refine ⟨?_, trivial⟩
  unfold Zl qN
  obtain ⟨⟨x1, x2, x3⟩, hx⟩ : ∃ x, yo l i = x := ⟨_, rfl⟩
  have hx' : l.getD i.toNat yS = (x1, x2, x3) := hx
  rw [hx']
  simp only [Bool.cond_eq_ite, decide_eq_true_eq, h0, h1, if_true, hw, hx]
  cases x2 <;> rfl
 ·intro again i s hi
  unfold Zl
  simp only [Bool.cond_eq_ite, decide_eq_true_eq, if_neg hi]
theorem y2N (l : List y8) (hl : l.length ≤ 1048576) : YN l = some (y59 l) := by
 unfold YN Vu y59
 refine Ya (step := Zx _) (fun (i s : Int) => (s, l, (l.length : Int), i)) (fun s => some s) yS qN l (by omega) (fun _ _ => True) ?_ ?_ 0 trivial
 ·intro again i s h0 h1 _
  have hw : Go.IntKind.wrap .i64 (i + 1) = i + 1 := w64 (by omega) (by omega)
  refine ⟨?_, trivial⟩
  unfold Zx qN
  obtain ⟨⟨x1, x2, x3⟩, hx⟩ : ∃ x, yo l i = x := ⟨_, rfl⟩
  have hx' : l.getD i.toNat yS = (x1, x2, x3) := hx
  rw [hx']
  simp only [Bool.cond_eq_ite, decide_eq_true_eq, h0, h1, if_true, hw, hx]
  cases x2 <;> rfl
 ·intro again i s hi
  unfold Zx
  simp only [Bool.cond_eq_ite, decide_eq_true_eq, if_neg hi]
def jE (l : List y8) (i gen : Int) : Int × Bool :=
 if inR i 0 ((l.length : Int) - 1) && ((l.getD i.toNat yS).2.1 && ((l.getD i.toNat yS).1 == gen)) then ((l.getD i.toNat yS).2.2, true) else (0, false)
theorem y0R (l : List y8) (i gen : Int) (hl : l.length ≤ 1048576) : JY (l, i, gen) = some (jE l i gen) := by
 unfold JY jE
 have hm : Go.IntKind.wrap .i64 ((l.length : Int) - 1) = (l.length : Int) - 1 := w64 (by omega) (by omega)
 obtain ⟨⟨x1, x2, x3⟩, hx⟩ : ∃ x, yo l i = x := ⟨_, rfl⟩
 have hx' : l.getD i.toNat yS = (x1, x2, x3) := hx
 rw [hx']
 simp only [hm, hx, Z8, Option.bind_some]
 by_cases hr : inR i 0 ((l.length : Int) - 1) = true
 ·obtain ⟨h0, h1⟩ := zp.1 hr
  rw [hr, if_pos h0, if_pos (by omega), if_pos h0, if_pos (by omega), if_pos h0, if_pos (by omega)]
  by_cases hg : x1 = gen
  ·have g1 : (x1 != gen) = false := by simp [hg]
   have g2 : (x1 == gen) = true := by simp [hg]
   rw [g1, g2]
   cases x2 <;> rfl
  ·have g1 : (x1 != gen) = true := by simpa using hg
   have g2 : (x1 == gen) = false := by simpa using hg
   rw [g1, g2]
   cases x2 <;> rfl
 ·have : inR i 0 ((l.length : Int) - 1) = false := by simpa using hr
  rw [this]
  rfl
theorem y0S (l : List y8) (i gen : Int) (hl : l.length ≤ 1048576) : w9 (l, i, gen) = some (jE l i gen) := by
 rw [← y0R l i gen hl]
 unfold w9 JY
 simp only [ZF, Z8]
end Go.Proofs.YtgediecndaheiaaGreat.Pl
namespace Go.Proofs.YtgediecndaheiaaGreat.Pl
open Go.Proofs.YtgediecndaheiaaGreat.R Go.Proofs.YtgediecndaheiaaGreat.XS
theorem ybZ {A : Type} (p : A → Bool) : ∀ (l : List A) (i j : Int), 0 ≤ i → decide (0 ≤ zX p l i) = YK (fun _ a => p a) l j
 | [], i, j, _ => rfl
 | a :: l, i, j, h => by
  rw [zX, YK, ← ybZ p l (i + 1) (j + 1) (by omega)]
  cases p a with
  | true => simp [h]
  | false => rfl
theorem y8Z {A : Type} (da : A) (l : List A) (i j : Int) (h0 : 0 ≤ j) (h : j < i) : (l.take i.toNat).getD j.toNat da = l.getD j.toNat da := by
 rw [List.getD_eq_getElem?_getD, List.getD_eq_getElem?_getD, List.getElem?_take, if_pos (by omega)]
theorem yc0 {A : Type} (l : List A) (i : Int) (h0 : 0 ≤ i) (h : i ≤ (l.length : Int)) : ((l.take i.toNat).length : Int) = i := by
 rw [List.length_take]
 omega
def W0 (age : Int) (_ : Int) (u : yc) : Bool := u.2.1 == age
def yc1 (vs : List yc) (l : List y9) (i : Int) (v : yc) : Bool :=
 !Yf v.1 || (!inR v.2.2.1 1 12 || (decide (z9 l v.2.1 < 0) || (decide (((Yj l v.2.1).length : Int) > 0) || ((decide (0 < i) && !Go.Op.bytesLess (ByteArray.toList (vs.getD (i - 1).toNat yp).1) (ByteArray.toList v.1)) || YK (W0 v.2.1) (vs.take i.toNat) 0))))
def wk (vs : List yc) (l : List y9) : Bool := !YK (yc1 vs l) vs 0 && decide ((vs.length : Int) ≤ 6)
theorem y4i {R : Type} (k0 : (Bool × Int × List yd × List y0 × List y9 × List y8 × List yc × Int) → Option R) (k1 : (Int × List yd × List y0 × List y9 × List y8 × List yc × Int) → Option R) (i : Int) (q : List Int) (t : List y0) (l : List y9) (cs : List y8) (vs : List yc) (z : Int) (v1 : ByteArray) (v2 v3 : Int) (v4 : Bool) (h0 : 0 ≤ i) (h1 : i ≤ (vs.length : Int)) (hv : vs.length ≤ 1048576) :
  KM k0 k1 (i, 0, q, t, l, cs, vs, z, v1, v2, v3, v4) = if YK (W0 v2) (vs.take i.toNat) 0 = true then k0 (false, i, q, t, l, cs, vs, z) else k1 (i, q, t, l, cs, vs, z) := by
 unfold KM
 have hlen := yc0 vs i h0 h1
 refine zU (step := jK k0 k1) (fun k => (i, k, q, t, l, cs, vs, z, v1, v2, v3, v4)) (W0 v2) _ _ yp (vs.take i.toNat) (by omega) ?_ ?_
 ·intro again k hk0 hk1
  rw [hlen] at hk1
  have hw : Go.IntKind.wrap .i64 (k + 1) = k + 1 := w64 (by omega) (by omega)
  have hk2 : k < (vs.length : Int) := by omega
  unfold jK W0
  rw [y8Z yp vs i k hk0 hk1]
  have hx : vs.getD k.toNat yp = ya vs k := rfl
  rw [hx]
  simp only [Bool.cond_eq_ite, decide_eq_true_eq, hk0, hk1, hk2, if_true, hw]
 ·intro again k hk
  rw [hlen] at hk
  unfold jK
  simp only [Bool.cond_eq_ite, decide_eq_true_eq, if_neg hk]
theorem y90 (q : List Int) (t : List y0) (l : List y9) (cs : List y8) (vs : List yc) (z : Int) (hl : l.length ≤ 1048576) (hv : vs.length ≤ 1048576) (hvn : ∀ v ∈ vs, ByteArray.size v.1 ≤ maxLen) : ww (q, t, l, cs, vs, z) = some (wk vs l) := by
 unfold ww Q3 wk
 refine (zU (step := jL _ _) (fun i => (i, q, t, l, cs, vs, z)) (yc1 vs l) (some false) (some (decide ((vs.length : Int) ≤ 6))) yp vs (by omega) ?_ ?_).trans ?_
 ·intro again i h0 h1
  have hw : Go.IntKind.wrap .i64 (i + 1) = i + 1 := w64 (by omega) (by omega)
  have hm : Go.IntKind.wrap .i64 (i - 1) = i - 1 := w64 (by omega) (by omega)
  have hmem := hvn _ (yI yp vs i h0 h1)
  unfold jL yc1
  obtain ⟨⟨x1, x2, x3, x4⟩, hx⟩ : ∃ x, ya vs i = x := ⟨_, rfl⟩
  have hx' : vs.getD i.toNat yp = (x1, x2, x3, x4) := hx
  have hy : vs.getD (i - 1).toNat yp = ya vs (i - 1) := rfl
  rw [hx'] at hmem
  rw [hx', hy]
  have e1 := J3 x1 hmem
  have e2 := ZE l x2 (by omega)
  have e3 := Kq l x2 hl
  simp only [Bool.cond_eq_ite, decide_eq_true_eq, h0, h1, if_true, hw, hm, hx, Z8, e1, e2, e3, y4i _ _ i q t l cs vs z x1 x2 x3 x4 h0 (by omega) hv, Option.bind_some, gt_iff_lt]
  cases Yf x1
  ·rfl
  by_cases h5 : 0 < i
  ·have h3 : 0 ≤ i - 1 := by omega
   have h4 : i - 1 < (vs.length : Int) := by omega
   simp only [h5, h3, h4, if_true, decide_true]
   by_cases ha : z9 l x2 < 0 <;> by_cases hk : (0 : Int) < ((Yj l x2).length : Int) <;> simp only [ha, hk, if_true, if_false, decide_true, decide_false] <;> cases Go.Op.bytesLess (ByteArray.toList (ya vs (i - 1)).1) (ByteArray.toList x1) <;> cases inR x3 1 12 <;> cases YK (W0 x2) (vs.take i.toNat) 0 <;> rfl
  ·simp only [h5, if_false, decide_false]
   by_cases ha : z9 l x2 < 0 <;> by_cases hk : (0 : Int) < ((Yj l x2).length : Int) <;> simp only [ha, hk, if_true, if_false, decide_true, decide_false] <;> cases inR x3 1 12 <;> cases YK (W0 x2) (vs.take i.toNat) 0 <;> rfl
 ·intro again i hi
  unfold jL
  simp only [Bool.cond_eq_ite, decide_eq_true_eq, if_neg hi]
 ·cases YK (yc1 vs l) vs 0 <;> rfl
theorem yaR (l : List yc) (v1 : ByteArray) (v2 v3 : Int) (v4 : Bool) (hl : l.length ≤ 1048576) : yB (l, v1, v2, v3, v4) = some (YK (W0 v2) l 0, v1, v2, v3, v4) := by
 have key : z3 (l, v1, v2, v3, v4) = some (zX (fun u : yc => u.2.1 == v2) l 0, v1, v2, v3, v4) := by
  unfold z3 YH
  refine (YU (step := yT _ _) (fun i => (l, (l.length : Int), i, v1, v2, v3, v4)) (fun u : yc => u.2.1 == v2) (fun x => some (x, v1, v2, v3, v4)) (some (-1, v1, v2, v3, v4)) yp l (by omega) ?_ ?_).trans ?_
  ·intro again i h0 h1
   have hw : Go.IntKind.wrap .i64 (i + 1) = i + 1 := w64 (by omega) (by omega)
   unfold yT WW
   simp only [Bool.cond_eq_ite, decide_eq_true_eq, h0, h1, if_true, hw, Option.bind_some]
   rfl
  ·intro again i hi
   unfold yT
   simp only [Bool.cond_eq_ite, decide_eq_true_eq, if_neg hi]
  ·rcases YJ (fun u : yc => u.2.1 == v2) yp l 0 (Int.le_refl _) with h | ⟨h1, h2, h3⟩
   ·rw [h]
    rfl
   ·rw [if_neg (by omega)]
 unfold yB
 rw [key]
 simp only [Option.bind_some, ge_iff_le]
 rw [ybZ _ l 0 0 (Int.le_refl _)]
 rfl
theorem y91 (q : List Int) (t : List y0) (l : List y9) (cs : List y8) (vs : List yc) (z : Int) (hl : l.length ≤ 1048576) (hv : vs.length ≤ 1048576) (hvn : ∀ v ∈ vs, ByteArray.size v.1 ≤ maxLen) : WX (q, t, l, cs, vs, z) = some (wk vs l) := by
 unfold WX QT wk
 refine (zU (step := JC _ _) (fun i => (vs, (vs.length : Int), i, q, t, l, cs, vs, z)) (yc1 vs l) (some false) (some (decide ((vs.length : Int) ≤ 6))) yp vs (by omega) ?_ ?_).trans ?_
 ·intro again i h0 h1
  have hw : Go.IntKind.wrap .i64 (i + 1) = i + 1 := w64 (by omega) (by omega)
  have hm : Go.IntKind.wrap .i64 (i - 1) = i - 1 := w64 (by omega) (by omega)
  have hmem := hvn _ (yI yp vs i h0 h1)
  unfold JC yc1
  obtain ⟨⟨x1, x2, x3, x4⟩, hx⟩ : ∃ x, ya vs i = x := ⟨_, rfl⟩
  have hx' : vs.getD i.toNat yp = (x1, x2, x3, x4) := hx
  have hy : vs.getD (i - 1).toNat yp = ya vs (i - 1) := rfl
  rw [hx'] at hmem
  rw [hx', hy]
  have e1 := J4 x1 hmem
  have e2 := ko l x2 (by omega)
  have e3 := y58 l x2 hl
  have e4 : yB (List.drop (Int.toNat (0 : Int)) (List.take (Int.toNat i) vs), x1, x2, x3, x4) = some (YK (W0 x2) (vs.take i.toNat) 0, x1, x2, x3, x4) := yaR (vs.take i.toNat) x1 x2 x3 x4 (by simp only [List.length_take]; omega)
  have h2 : i ≤ (vs.length : Int) := by omega
  simp only [Bool.cond_eq_ite, decide_eq_true_eq, h0, h1, h2, if_true, hw, hm, hx, ZF, e1, e2, e3, e4, Option.bind_some, gt_iff_lt, Int.le_refl]
  cases Yf x1
  ·rfl
  by_cases h5 : 0 < i
  ·have h3 : 0 ≤ i - 1 := by omega
   have h4 : i - 1 < (vs.length : Int) := by omega
   simp only [h5, h3, h4, if_true, decide_true]
   by_cases ha : z9 l x2 < 0 <;> by_cases hk : (0 : Int) < ((Yj l x2).length : Int) <;> simp only [ha, hk, if_true, if_false, decide_true, decide_false] <;> cases Go.Op.bytesLess (ByteArray.toList (ya vs (i - 1)).1) (ByteArray.toList x1) <;> cases inR x3 1 12 <;> cases YK (W0 x2) (vs.take i.toNat) 0 <;> rfl
  ·simp only [h5, if_false, decide_false]
   by_cases ha : z9 l x2 < 0 <;> by_cases hk : (0 : Int) < ((Yj l x2).length : Int) <;> simp only [ha, hk, if_true, if_false, decide_true, decide_false] <;> cases inR x3 1 12 <;> cases YK (W0 x2) (vs.take i.toNat) 0 <;> rfl
 ·intro again i hi
  unfold JC
  simp only [Bool.cond_eq_ite, decide_eq_true_eq, if_neg hi]
 ·cases YK (yc1 vs l) vs 0 <;> rfl
end Go.Proofs.YtgediecndaheiaaGreat.Pl
namespace Go.Proofs.YtgediecndaheiaaGreat.Pl
open Go.Proofs.YtgediecndaheiaaGreat.R Go.Proofs.YtgediecndaheiaaGreat.XS
def zr (c : Int) (_ : Int) (u : y7) : Bool := (u.2.2.1 == 1) && (u.2.2.2.1 == c)
def ydh (ks : List y7) (l : List y9) (cs : List y8) (i : Int) (a : y7) : Bool :=
 decide (z9 l a.2.1 < 0) || ((a.2.2.1 == 1) && (!(jE cs a.2.2.2.1 a.2.2.2.2).2 || YK (zr a.2.2.2.1) (ks.take i.toNat) 0))
def y07 (n : Int) (a : y7) : Int := if (a.2.2.1 == 1) = true then Go.IntKind.wrap .i64 (n + 1) else n
def wS (ks : List y7) (l : List y9) (cs : List y8) : Bool := !YK (ydh ks l cs) ks 0 && (ks.foldl y07 0 == y59 cs)
theorem y4j {R : Type} (k0 : (Bool × Int × Int × List yd × List y0 × List y9 × List y8 × List yc × Int × List y7) → Option R) (k1 : (Int × Int × List yd × List y0 × List y9 × List y8 × List yc × Int × List y7) → Option R) (n i : Int) (q : List Int) (t : List y0) (l : List y9) (cs : List y8) (vs : List yc) (z : Int) (ks : List y7) (h0 : 0 ≤ i) (h1 : i < (ks.length : Int)) (hk : ks.length ≤ 1048576) :
  kN k0 k1 (n, i, 0, q, t, l, cs, vs, z, ks) = if YK (zr (y6 ks i).2.2.2.1) (ks.take i.toNat) 0 = true then k0 (false, n, i, q, t, l, cs, vs, z, ks) else k1 (n, i, q, t, l, cs, vs, z, ks) := by
 unfold kN
 have hlen := yc0 ks i h0 (by omega)
 refine zU (step := ZU k0 k1) (fun k => (n, i, k, q, t, l, cs, vs, z, ks)) (zr (y6 ks i).2.2.2.1) _ _ yL (ks.take i.toNat) (by omega) ?_ ?_
 ·intro again k hk0 hk1
  rw [hlen] at hk1
  have hw : Go.IntKind.wrap .i64 (k + 1) = k + 1 := w64 (by omega) (by omega)
  have hk2 : k < (ks.length : Int) := by omega
  unfold ZU zr
  rw [y8Z yL ks i k hk0 hk1]
  have hx : ks.getD k.toNat yL = y6 ks k := rfl
  rw [hx]
  simp only [Bool.cond_eq_ite, decide_eq_true_eq, hk0, hk1, hk2, h0, h1, if_true, hw]
  cases ((y6 ks k).2.2.1 == 1) <;> cases ((y6 ks k).2.2.2.1 == (y6 ks i).2.2.2.1) <;> rfl
 ·intro again k hk
  rw [hlen] at hk
  unfold ZU
  simp only [Bool.cond_eq_ite, decide_eq_true_eq, if_neg hk]
theorem y4k (q : List Int) (t : List y0) (l : List y9) (cs : List y8) (vs : List yc) (z : Int) (ht : TOk t) (hl : l.length ≤ 1048576) (hc : cs.length ≤ 1048576) : wx (q, t, l, cs, vs, z) = some (wS (yq t) l cs) := by
 unfold wx Q4 wS
 have hk := ht.keys
 have e : yN (q, t) = some (yq t) := YO q t (by have := ht.len; omega) ht.nodes ht.sum
 simp only [e, Option.bind_some]
 generalize yq t = ks at hk
 refine (y3w (step := jN _ _) (fun (i n : Int) => (n, i, q, t, l, cs, vs, z, ks)) (ydh ks l cs) y07 (some false) (fun n => some (n == y59 cs)) yL ks (by omega) ?_ ?_ 0).trans ?_
 ·intro again i n h0 h1
  have hw : Go.IntKind.wrap .i64 (i + 1) = i + 1 := w64 (by omega) (by omega)
  unfold jN ydh y07
  have hin := fun (k0 : (Bool × Int × Int × List yd × List y0 × List y9 × List y8 × List yc × Int × List y7) → Option Bool) k1 m => y4j k0 k1 m i q t l cs vs z ks h0 h1 hk
  obtain ⟨⟨x1, x2, x3, x4, x5⟩, hx⟩ : ∃ x, y6 ks i = x := ⟨_, rfl⟩
  have hx' : ks.getD i.toNat yL = (x1, x2, x3, x4, x5) := hx
  rw [hx']
  rw [hx] at hin
  have e1 := ZE l x2 (by omega)
  have e2 := y0R cs x4 x5 hc
  simp only [Bool.cond_eq_ite, decide_eq_true_eq, h0, h1, if_true, hw, hx, e1, e2, hin, Option.bind_some]
  by_cases ha : z9 l x2 < 0
  ·simp only [ha, if_true, decide_true, Bool.true_or]
  ·simp only [ha, if_false, decide_false, Bool.false_or]
   by_cases h3 : x3 = 1
   ·have g1 : (x3 == 1) = true := by simp [h3]
    have g2 : (x3 != 1) = false := by simp [h3]
    rw [g1, g2]
    cases (jE cs x4 x5).2 <;> cases YK (zr x4) (ks.take i.toNat) 0 <;> rfl
   ·have g1 : (x3 == 1) = false := by simpa using h3
    have g2 : (x3 != 1) = true := by simpa using h3
    rw [g1, g2]
    rfl
 ·intro again i n hi
  unfold jN
  simp only [Bool.cond_eq_ite, decide_eq_true_eq, if_neg hi, y8Y cs hc, Option.bind_some]
 ·cases YK (ydh ks l cs) ks 0 <;> rfl
theorem yc2 (c : Int) : ∀ (l : List y7) (i : Int) (j : Nat), j < l.length → YK (zr c) (l.take (j + 1)) i = (YK (zr c) (l.take j) i || zr c 0 (l.getD j yL))
 | a :: l, i, 0, _ => by simp [YK, zr]
 | a :: l, i, j + 1, h => by
  have := yc2 c l (i + 1) j (by simpa using h)
  rw [List.take_succ_cons, YK, this, List.take_succ_cons, YK, List.getD_cons_succ, Bool.or_assoc]
def ydi (s : Int × List Bool) (a : y7) : Int × List Bool := (y07 s.1 a, if (a.2.2.1 == 1) = true then s.2.set a.2.2.2.1.toNat true else s.2)
theorem yiT : ∀ (l : List y7) (s : Int × List Bool), (l.foldl ydi s).1 = l.foldl y07 s.1
 | [], _ => rfl
 | a :: l, s => yiT l (ydi s a)
theorem y4l (q : List Int) (t : List y0) (l : List y9) (cs : List y8) (vs : List yc) (z : Int) (ht : TOk t) (hl : l.length ≤ 1048576) (hc : cs.length = 24) : wG (q, t, l, cs, vs, z) = some (wS (yq t) l cs) := by
 unfold wG Q8 wS
 have hk := ht.keys
 have e : zD (q, t) = some (yq t) := KR q t (by have := ht.len; omega) ht.nodes ht.sum
 rw [if_pos (by omega), if_pos (Int.le_refl _), if_pos (by omega)]
 simp only [e, Option.bind_some]
 generalize yq t = ks at hk
 refine (y4e (step := jS _ _) (fun (i : Int) (s : Int × List Bool) => (s.1, (ks.length : Int), i, q, t, l, cs, vs, z, s.2, ks)) (fun i s a => if ydh ks l cs i a = true then .error (some false) else .ok (ydi s a)) (fun s => some (s.1 == y59 cs)) yL ks (by omega) (fun j s => s.2.length = 24 ∧ ∀ c : Nat, c < 24 → s.2.getD c false = YK (zr (c : Int)) (ks.take j) 0) ?_ ?_ 0 (Int.le_refl _) (0, List.replicate (Int.toNat 24) yek) ⟨rfl, fun c hc => ?_⟩).trans ?_
 ·rintro again i ⟨n, tk⟩ h0 h1 ⟨hI1, hI2⟩
  simp only at hI1 hI2
  have hw : Go.IntKind.wrap .i64 (i + 1) = i + 1 := w64 (by omega) (by omega)
  obtain ⟨⟨x1, x2, x3, x4, x5⟩, hx⟩ : ∃ x, y6 ks i = x := ⟨_, rfl⟩
  have hx' : ks.getD i.toNat yL = (x1, x2, x3, x4, x5) := hx
  have hgd : ks.getD i.toNat yL = ks.getD i.toNat yL := rfl
  have e1 := ko l x2 (by omega)
  have e2 := y0S cs x4 x5 (by omega)
  have hcell : (jE cs x4 x5).2 = true → 0 ≤ x4 ∧ x4 < 24 := fun h => by
   unfold jE at h
   split at h
   ·rename_i hh
    simp only [Bool.and_eq_true] at hh
    have := zp.1 hh.1
    omega
   ·cases h
  rw [hx']
  refine ⟨?_, fun s' hs' => ?_⟩
  ·unfold jS ydh ydi y07
   simp only [Bool.cond_eq_ite, decide_eq_true_eq, h0, h1, if_true, hw, hx, e1, e2, Option.bind_some]
   by_cases ha : z9 l x2 < 0
   ·simp only [ha, if_true, decide_true, Bool.true_or]
   ·simp only [ha, if_false, decide_false, Bool.false_or]
    by_cases h3 : x3 = 1
    ·have g1 : (x3 == 1) = true := by simp [h3]
     have g2 : (x3 != 1) = false := by simp [h3]
     rw [g1, g2]
     cases hok : (jE cs x4 x5).2 with
     | false => rfl
     | true =>
      obtain ⟨b0, b1⟩ := hcell hok
      have b2 : x4 < (tk.length : Int) := by omega
      have hrd : yel tk x4 = YK (zr x4) (ks.take i.toNat) 0 := by
       have := hI2 x4.toNat (by omega)
       rw [show ((x4.toNat : Nat) : Int) = x4 by omega] at this
       exact this
      simp only [b0, b2, if_true, hrd]
      cases YK (zr x4) (ks.take i.toNat) 0 <;> rfl
    ·have g1 : (x3 == 1) = false := by simpa using h3
     have g2 : (x3 != 1) = true := by simpa using h3
     rw [g1, g2]
     rfl
  ·by_cases hb : ydh ks l cs i (x1, x2, x3, x4, x5) = true
   ·rw [if_pos hb] at hs'
    cases hs'
   ·rw [if_neg hb] at hs'
    injection hs' with hs'
    subst hs'
    have hsucc : ∀ c : Int, YK (zr c) (ks.take (i.toNat + 1)) 0 = (YK (zr c) (ks.take i.toNat) 0 || zr c 0 (x1, x2, x3, x4, x5)) := fun c => by
     rw [yc2 c ks 0 i.toNat (by omega), hx']
    unfold ydi
    simp only
    by_cases h3 : x3 = 1
    ·have g1 : (x3 == 1) = true := by simp [h3]
     simp only [g1, if_true]
     have hok : (jE cs x4 x5).2 = true := by
      unfold ydh at hb
      simp only [g1] at hb
      cases hh : (jE cs x4 x5).2 with
      | true => rfl
      | false =>
       rw [hh] at hb
       simp at hb
     obtain ⟨b0, b1⟩ := hcell hok
     refine ⟨by simpa using hI1, fun c hc => ?_⟩
     rw [hsucc, ← hI2 c hc]
     unfold zr
     simp only [g1, Bool.true_and]
     rw [List.getD_eq_getElem?_getD, List.getD_eq_getElem?_getD]
     by_cases hcx : c = x4.toNat
     ·rw [← hcx, List.getElem?_set_self (by omega)]
      have : (x4 == (c : Int)) = true := by
       simp only [beq_iff_eq]
       omega
      rw [this]
      simp
     ·rw [List.getElem?_set_ne (fun h => hcx h.symm)]
      have : (x4 == (c : Int)) = false := by
       simp only [beq_eq_false_iff_ne, ne_eq]
       omega
      rw [this]
      simp
    ·have g1 : (x3 == 1) = false := by simpa using h3
     simp only [g1, Bool.false_eq_true, if_false]
     refine ⟨hI1, fun c hc => ?_⟩
     rw [hsucc, ← hI2 c hc]
     unfold zr
     simp only [g1, Bool.false_and, Bool.or_false]
 ·rintro again i ⟨n, tk⟩ hi
  unfold jS
  simp only [Bool.cond_eq_ite, decide_eq_true_eq, if_neg hi, y2N cs (by omega), Option.bind_some]
  rw [Bool.beq_comm]
 ·show (List.replicate 24 false).getD c false = _
  rw [List.getD_eq_getElem?_getD, List.getElem?_replicate]
  simp [YK, hc]
 ·have := y3v (ydh ks l cs) ydi (some false) (fun s : Int × List Bool => some (s.1 == y59 cs)) ks 0 (0, List.replicate (Int.toNat 24) yek)
  rw [show (0 : Int).toNat = 0 from rfl, List.drop_zero, this, yiT]
  cases YK (ydh ks l cs) ks 0 <;> rfl
def y08 (z : Int) (_ : Int) (a : y9) : Bool := decide (a.1 ≥ z)
def yn (q : List Int) (t : List y0) (l : List y9) (cs : List y8) (vs : List yc) (z : Int) : Bool :=
 zv q t && (ji l && (zA cs && (inR z 1 61 && (!YK (y08 z) l 0 && (wk vs l && wS (yq t) l cs)))))
theorem y0T (q : List Int) (t : List y0) (l : List y9) (cs : List y8) (vs : List yc) (z : Int) (ht : TOk t) (hl : l.length ≤ 1048576) (hc : cs.length ≤ 1048576) (hv : vs.length ≤ 1048576) (hvn : ∀ v ∈ vs, ByteArray.size v.1 ≤ maxLen) : yH (q, t, l, cs, vs, z) = some (yn q t l cs vs z) := by
 unfold yH QA yn
 refine (zU (step := Jn _ _) (fun i => (i, q, t, l, cs, vs, z)) (y08 z) (some false) (some (zv q t && (ji l && (zA cs && (inR z 1 61 && (wk vs l && wS (yq t) l cs)))))) zc l (by omega) ?_ ?_).trans ?_
 ·intro again i h0 h1
  have hw : Go.IntKind.wrap .i64 (i + 1) = i + 1 := w64 (by omega) (by omega)
  unfold Jn y08
  have hx : l.getD i.toNat zc = yM l i := rfl
  rw [hx]
  simp only [Bool.cond_eq_ite, decide_eq_true_eq, h0, h1, if_true, hw]
 ·intro again i hi
  unfold Jn
  simp only [Bool.cond_eq_ite, decide_eq_true_eq, if_neg hi, VM q t ht, Kp l hl, JP cs hc, Z8, y90 q t l cs vs z hl hv hvn, y4k q t l cs vs z ht hl hc, Option.bind_some]
  cases zv q t <;> cases ji l <;> cases zA cs <;> cases inR z 1 61 <;> cases wk vs l <;> rfl
 ·cases YK (y08 z) l 0 <;> cases zv q t <;> cases ji l <;> cases zA cs <;> cases inR z 1 61 <;> rfl
theorem y5a (q : List Int) (t : List y0) (l : List y9) (cs : List y8) (vs : List yc) (z : Int) (ht : TOk t) (hl : l.length ≤ 1048576) (hc : cs.length ≤ 1048576) (hv : vs.length ≤ 1048576) (hvn : ∀ v ∈ vs, ByteArray.size v.1 ≤ maxLen) : Yy (q, t, l, cs, vs, z) = some (yn q t l cs vs z) := by
 unfold Yy yn
 simp only [VN q t ht, y0Q l hl, Vc cs hc, ZF, Option.bind_some]
 cases zv q t
 ·rfl
 cases ji l
 ·rfl
 cases hcc : zA cs
 ·rfl
 cases inR z 1 61
 ·rfl
 have hc24 : cs.length = 24 := by
  unfold zA at hcc
  simp only [Bool.and_eq_true, beq_iff_eq] at hcc
  omega
 simp only [Bool.not_true, cond_false, Option.bind_some, Bool.true_and]
 unfold QU
 refine (zU (step := JD _ _) (fun i => (l, (l.length : Int), i, q, t, l, cs, vs, z)) (y08 z) (some false) (some (wk vs l && wS (yq t) l cs)) zc l (by omega) ?_ ?_).trans ?_
 ·intro again i h0 h1
  have hw : Go.IntKind.wrap .i64 (i + 1) = i + 1 := w64 (by omega) (by omega)
  unfold JD y08
  have hx : l.getD i.toNat zc = yM l i := rfl
  rw [hx]
  simp only [Bool.cond_eq_ite, decide_eq_true_eq, h0, h1, if_true, hw]
 ·intro again i hi
  unfold JD
  simp only [Bool.cond_eq_ite, decide_eq_true_eq, if_neg hi, y91 q t l cs vs z hl hv hvn, y4l q t l cs vs z ht hl hc24, Option.bind_some]
  cases wk vs l <;> rfl
 ·cases YK (y08 z) l 0 <;> rfl
end Go.Proofs.YtgediecndaheiaaGreat.Pl
namespace Go.Proofs.YtgediecndaheiaaGreat.Pl
open Go.Proofs.YtgediecndaheiaaGreat.R Go.Proofs.YtgediecndaheiaaGreat.XS
theorem kr {A : Type} (p : Int → A → Bool) : ∀ (l : List A) (i : Int), YK p l i = false → ∀ a ∈ l, ∃ j, p j a = false
 | [], _, _, a, h => by simp at h
 | b :: l, i, h, a, ha => by
  simp only [YK, Bool.or_eq_false_iff] at h
  rcases List.mem_cons.1 ha with rfl | ha
  ·exact ⟨i, h.1⟩
  ·exact kr p l (i + 1) h.2 a ha
theorem y3x {s : List y7} (h : Wd s = true) : s.length ≤ 60 ∧ ∀ k ∈ s, YE k = true := by
 unfold Wd at h
 simp only [Bool.and_eq_true, Bool.not_eq_true', decide_eq_true_eq] at h
 refine ⟨by omega, fun k hk => ?_⟩
 obtain ⟨j, hj⟩ := kr _ s 0 h.1 k hk
 simpa using hj
theorem y1M {n : List yb} (h : YF n = true) : n.length ≤ 3 ∧ ∀ s ∈ n, Wd s = true := by
 unfold YF at h
 simp only [Bool.and_eq_true, Bool.not_eq_true', decide_eq_true_eq] at h
 refine ⟨by omega, fun s hs => ?_⟩
 obtain ⟨j, hj⟩ := kr _ n 0 h.1 s hs
 unfold y1L at hj
 simp only [Bool.or_eq_false_iff, Bool.not_eq_false'] at hj
 exact hj.1
theorem JQ {q : List Int} {t : List y0} (h : zv q t = true) : q.length = t.length ∧ 1 ≤ t.length ∧ t.length ≤ 20 ∧ ∀ n ∈ t, YF n = true := by
 unfold zv at h
 simp only [Bool.and_eq_true, Bool.not_eq_true', decide_eq_true_eq, zp] at h
 obtain ⟨h1, h2, _, h3, _⟩ := h
 refine ⟨h2, by omega, by omega, fun n hn => ?_⟩
 obtain ⟨j, hj⟩ := kr _ t 0 h3 n hn
 unfold VL at hj
 simp only [Bool.or_eq_false_iff, Bool.not_eq_false'] at hj
 have h4 := hj.2
 unfold y56 at h4
 simp only [Bool.and_eq_true] at h4
 exact h4.1
end Go.Proofs.YtgediecndaheiaaGreat.Pl
namespace Go.Proofs.YtgediecndaheiaaGreat.Pl
open Go.Proofs.YtgediecndaheiaaGreat.R Go.Proofs.YtgediecndaheiaaGreat.XS
theorem Vd {a b : y7} : wY a b = true ↔ a.1 < b.1 ∨ a.1 = b.1 ∧ a.2.1 < b.2.1 := by
 unfold wY
 by_cases h1 : a.1 < b.1
 ·simp [h1]
 ·by_cases h2 : a.1 = b.1 <;> simp [h1, h2]
theorem ZG {a b : y7} : jW a b = true ↔ a.1 = b.1 ∧ a.2.1 = b.2.1 := by simp [jW]
theorem y19 {a b c : y7} (h1 : wY a b = true) (h2 : wY b c = true) : wY a c = true := by
 rw [Vd] at *
 omega
def srt (l : List y7) : Prop := l.Pairwise fun a b => wY a b = true
def y7Y : List y7 → y7 → List y7
 | [], k => [k]
 | c :: r, k => if wY c k = true then c :: y7Y r k else k :: (c :: r).filter fun x => !jW x k
theorem yc3 (k : y7) : ∀ (l o : List y7), l.foldl (J6 k) (true, o) = (true, o ++ l.filter fun x => !jW x k)
 | [], o => by simp
 | c :: l, o => by
  rw [List.foldl_cons, List.filter_cons]
  have e : J6 k (true, o) c = (true, if jW c k then o else o ++ [c]) := by simp [J6]
  rw [e, yc3 k l]
  cases jW c k <;> simp
def ylj (k : y7) (r : Bool × List y7) : List y7 := if r.1 then r.2 else r.2 ++ [k]
theorem y92 (k : y7) : ∀ (l o : List y7), ylj k (l.foldl (J6 k) (false, o)) = o ++ y7Y l k
 | [], o => by simp [y7Y, ylj]
 | c :: l, o => by
  rw [List.foldl_cons, y7Y]
  cases hl : wY c k with
  | true =>
   have hs : jW c k = false := by
    cases hs : jW c k with
    | false => rfl
    | true =>
     rw [Vd] at hl
     rw [ZG] at hs
     omega
   have e : J6 k (false, o) c = (false, o ++ [c]) := by simp [J6, hl, hs]
   rw [e, y92 k l (o ++ [c])]
   simp
  | false =>
   have e : J6 k (false, o) c = (true, if jW c k then o ++ [k] else o ++ [k] ++ [c]) := by simp [J6, hl]
   rw [e, yc3]
   simp only [ylj, if_true, List.filter_cons, Bool.false_eq_true, if_false]
   cases jW c k <;> simp
theorem K9 (l : List y7) (k : y7) : Yr l k = y7Y l k := by
 exact (y92 k l []).trans (List.nil_append _)
theorem y7G {k : y7} : ∀ {l : List y7} {x : y7}, x ∈ y7Y l k → x = k ∨ x ∈ l
 | [], x, h => by simpa [y7Y] using h
 | c :: r, x, h => by
  rw [y7Y] at h
  split at h
  ·rcases List.mem_cons.1 h with rfl | h
   ·exact .inr (by simp)
   ·rcases y7G h with h | h
    ·exact .inl h
    ·exact .inr (by simp [h])
  ·rcases List.mem_cons.1 h with rfl | h
   ·exact .inl rfl
   ·exact .inr (List.mem_filter.1 h).1
theorem yc4 (k : y7) : ∀ (l : List y7), srt l → srt (y7Y l k)
 | [], _ => by simp [srt, y7Y]
 | c :: r, h => by
  obtain ⟨h1, h2⟩ := List.pairwise_cons.1 h
  rw [y7Y]
  split
  ·rename_i hl
   refine List.pairwise_cons.2 ⟨fun y hy => ?_, yc4 k r h2⟩
   rcases y7G hy with rfl | hy
   ·exact hl
   ·exact h1 y hy
  ·rename_i hl
   refine List.pairwise_cons.2 ⟨fun y hy => ?_, List.Pairwise.filter _ h⟩
   obtain ⟨hy, hs⟩ := List.mem_filter.1 hy
   have hs' : ¬ (y.1 = k.1 ∧ y.2.1 = k.2.1) := fun e => by
    rw [ZG.2 e] at hs
    cases hs
   rw [Vd] at hl ⊢
   rcases List.mem_cons.1 hy with rfl | hy
   ·omega
   ·have := Vd.1 (h1 y hy)
    omega
theorem We {l : List y7} (k : y7) (h : srt l) : srt (Yr l k) := by rw [K9]; exact yc4 k l h
theorem y5T {l : List y7} {k x : y7} (h : x ∈ Yr l k) : x = k ∨ x ∈ l := by rw [K9] at h; exact y7G h
theorem qp : ∀ (b a : List y7), srt a → srt (Z7 a b)
 | [], _, h => h
 | c :: b, a, h => qp b _ (We c h)
theorem y5U : ∀ (b a : List y7) {x : y7}, x ∈ Z7 a b → x ∈ a ∨ x ∈ b
 | [], _, _, h => .inl h
 | c :: b, a, x, h => by
  rcases y5U b (Yr a c) h with h | h
  ·rcases y5T h with rfl | h
   ·exact .inr (by simp)
   ·exact .inl h
  ·exact .inr (by simp [h])
theorem yc5 : ∀ (l s : List y7), l.foldl Va s = s ++ l.filter fun c => !decide (c.2.2.1 = 0)
 | [], s => by simp
 | c :: l, s => by
  rw [List.foldl_cons, yc5 l, List.filter_cons]
  unfold Va
  by_cases h : c.2.2.1 = 0 <;> simp [h]
theorem qO (l : List y7) : K6 l = l.filter fun c => !decide (c.2.2.1 = 0) := by
 have := yc5 l []
 simpa [K6] using this
theorem Ve {l : List y7} (h : srt l) : srt (K6 l) := by rw [qO]; exact List.Pairwise.filter _ h
theorem y93 {l : List y7} {x : y7} (h : x ∈ K6 l) : x ∈ l := by rw [qO] at h; exact (List.mem_filter.1 h).1
theorem y4m : ∀ (n : List yb) (s : List y7), srt s → srt (n.foldl Z7 s)
 | [], _, h => h
 | c :: n, s, h => y4m n _ (qp c s h)
theorem y94 : ∀ (n : List yb) (s : List y7) {x : y7}, x ∈ n.foldl Z7 s → x ∈ s ∨ ∃ c ∈ n, x ∈ (show List y7 from c)
 | [], _, _, h => .inl h
 | c :: n, s, x, h => by
  rcases y94 n (Z7 s c) h with h | ⟨d, hd, hx⟩
  ·rcases y5U c s h with h | h
   ·exact .inl h
   ·exact .inr ⟨c, by simp, h⟩
  ·exact .inr ⟨d, by simp [hd], hx⟩
theorem qq (n : List yb) : srt (yE n) := Ve (y4m n [] List.Pairwise.nil)
theorem y1N {n : List yb} {x : y7} (h : x ∈ yE n) : ∃ c ∈ n, x ∈ (show List y7 from c) := by
 rcases y94 n [] (y93 h) with h | h
 ·cases h
 ·exact h
theorem qr {A : Type} {p : Int → A → Bool} (da : A) : ∀ (l : List A) (i : Int), (∀ j : Nat, j < l.length → p (i + j) (l.getD j da) = false) → YK p l i = false
 | [], _, _ => rfl
 | a :: l, i, h => by
  rw [YK, Bool.or_eq_false_iff]
  refine ⟨by simpa using h 0 (by simp), qr da l (i + 1) fun j hj => ?_⟩
  have := h (j + 1) (by simpa using hj)
  rw [List.getD_cons_succ] at this
  rw [show i + 1 + (j : Int) = i + ((j + 1 : Nat) : Int) by omega]
  exact this
theorem zd {A : Type} (da : A) (l : List A) (j : Nat) (h : j < l.length) : l.getD j da = l[j] := by simp [List.getD, h]
theorem yf3 {l : List y7} (h : srt l) : YK (wj l) l 0 = false := by
 refine qr yL l 0 fun j hj => ?_
 unfold wj
 cases j with
 | zero => simp
 | succ j =>
  have h2 := List.pairwise_iff_getElem.1 h j (j + 1) (by omega) hj (by omega)
  rw [show ((0 : Int) + ((j + 1 : Nat) : Int) - 1).toNat = j by omega, zd _ _ _ (by omega), zd _ _ _ hj, h2]
  simp
theorem yru {l : List y7} (h : srt l) (hk : ∀ k ∈ l, YE k = true) (hl : l.length ≤ 60) : Wd l = true := by
 unfold Wd
 rw [yf3 h, qr yL l 0 fun j hj => by
  rw [zd _ _ _ hj, hk _ (List.getElem_mem hj)]
  rfl]
 simp
 omega
def yU (l : List y7) : List yb := if l.length = 0 then [] else [l]
theorem y5V {l : List y7} (h : srt l) (hk : ∀ k ∈ l, YE k = true) (hl : l.length ≤ 8) : YF (yU l) = true := by
 unfold yU
 split
 ·rfl
 ·rename_i h0
  have h1 := yru h hk (by omega)
  have h2 : y0P 0 l = (List.length l : Int) := by
   unfold y0P
   rw [w64 (by omega) (by omega)]
   omega
  unfold YF
  simp only [YK, y1L, h1, Bool.not_true, Bool.false_or, Bool.or_false, List.foldl_cons, List.foldl_nil, h2, List.length_cons, List.length_nil]
  rw [show (((List.length l : Nat) : Int) == 0) = false from beq_eq_false_iff_ne.2 (by omega)]
  simp
  omega
end Go.Proofs.YtgediecndaheiaaGreat.Pl
namespace Go.Proofs.YtgediecndaheiaaGreat.Pl
open Go.Proofs.YtgediecndaheiaaGreat.R Go.Proofs.YtgediecndaheiaaGreat.XS
theorem y3y {T A R : Type} {step : (T → Option R) → T → Option R} (da : A) (l : List A) (St0 : Int → T) (St1 : Int → List A → T) (k0 : Option R) (k1 : List A → Option R) (hl : l.length ≤ 1099511627776)
  (h0 : ∀ again i, 0 ≤ i → i < ((List.length l : Nat) : Int) → step again (St0 i) = again (St1 (i + 1) [l.getD i.toNat da]))
  (h1 : ∀ again i o, 0 ≤ i → i < ((List.length l : Nat) : Int) → List.length o ≤ List.length l → step again (St1 i o) = again (St1 (i + 1) (o ++ [l.getD i.toNat da])))
  (hd0 : ∀ again i, ¬ i < ((List.length l : Nat) : Int) → step again (St0 i) = k0)
  (hd1 : ∀ again i o, ¬ i < ((List.length l : Nat) : Int) → step again (St1 i o) = k1 o) : zV step Yg (St0 0) = if l.length = 0 then k0 else k1 l := by
 have key : ∀ (m : Nat) (i : Int), 0 ≤ i → i ≤ l.length → l.length - i.toNat < m → zV step m (St1 i (l.take i.toNat)) = k1 l := by
  intro m
  induction m with
  | zero => intro i _ _ h; omega
  | succ m ih =>
   intro i i0 i1 hm
   rw [zV]
   by_cases hi : i < ((List.length l : Nat) : Int)
   ·have e1 : (i + 1).toNat = i.toNat + 1 := by omega
    have e2 : l.take i.toNat ++ [l.getD i.toNat da] = l.take (i + 1).toNat := by
     rw [e1, List.take_succ_eq_append_getElem (by omega), y7z da l i i0 hi]
    rw [h1 _ i _ i0 hi (by rw [List.length_take]; omega), e2]
    exact ih (i + 1) (by omega) (by omega) (by omega)
   ·rw [hd1 _ i _ hi, List.take_of_length_le (by omega)]
 have hF : Yg = (Yg - 1) + 1 := by
  have := y12
  omega
 rw [hF, zV]
 by_cases h : l.length = 0
 ·rw [if_pos h, hd0 _ 0 (by omega)]
 ·rw [if_neg h, h0 _ 0 (Int.le_refl _) (by omega)]
  have e : [l.getD (0 : Int).toNat da] = l.take (0 + 1 : Int).toNat := by
   cases l with
   | nil => simp at h
   | cons a l => rfl
  rw [e]
  exact key _ _ (by omega) (by omega) (by
   have := y12
   omega)
theorem ysm {A : Type} (a : A) (k : Nat) (h : k < 140737488355328) : List.length [a] * k < 140737488355328 := by
 simp only [List.length_cons, List.length_nil]
 omega
end Go.Proofs.YtgediecndaheiaaGreat.Pl
namespace Go.Proofs.YtgediecndaheiaaGreat.Pl
open Go.Proofs.YtgediecndaheiaaGreat.R Go.Proofs.YtgediecndaheiaaGreat.XS
def y35 (n : y0) : Prop := List.length n ≤ 1048576 ∧ ∀ b ∈ (show List yb from n), List.length b ≤ 1048576
theorem VO (n : List yb) (h : y35 n) : zg n = some n := by
 have h1 : n.length ≤ 1048576 := h.1
 have e : zg n = if n.length = 0 then some ([] : List yb) else some n := by
  unfold zg QB
  refine y3y (step := Z3 _ _) yW n (fun i => Sum.inl (i, n)) (fun i o => Sum.inr (i, n, o)) _ (fun o => some o) (by omega) ?_ ?_ ?_ ?_
  ·intro again i i0 i1
   have hw : Go.IntKind.wrap .i64 (i + 1) = i + 1 := w64 (by omega) (by omega)
   have hr : List.length (ym n i) ≤ 1048576 := h.2 _ (yI yW n i i0 i1)
   simp only [Z3, Bool.cond_eq_ite, decide_eq_true_eq, i0, i1, if_true, hw]
   rw [if_pos (by simp only [List.length_nil]; omega), if_pos (ysm _ _ (by decide))]
   rfl
  ·intro again i o i0 i1 i2
   have hw : Go.IntKind.wrap .i64 (i + 1) = i + 1 := w64 (by omega) (by omega)
   have hr : List.length (ym n i) ≤ 1048576 := h.2 _ (yI yW n i i0 i1)
   simp only [Z3, Bool.cond_eq_ite, decide_eq_true_eq, i0, i1, if_true, hw]
   rw [if_pos (by simp only [List.length_nil]; omega), if_pos (by simp only [List.length_cons, List.length_nil]; omega)]
   rfl
  ·intro again i hi
   simp only [Z3, Bool.cond_eq_ite, decide_eq_true_eq, if_neg hi]
  ·intro again i o hi
   simp only [Z3, Bool.cond_eq_ite, decide_eq_true_eq, if_neg hi]
 rw [e]
 split
 ·rename_i h0
  rw [List.length_eq_zero_iff.1 h0]
 ·rfl
theorem KS (l : List y7) (h : l.length ≤ 1048576) : Y8 l = some l := by
 unfold Y8
 rw [if_pos (by simp only [List.length_nil]; omega)]
 rfl
theorem KT (n : List yb) (h : y35 n) : zE n = some n := by
 have h1 : n.length ≤ 1048576 := h.1
 have e : zE n = if n.length = 0 then some ([] : List yb) else some n := by
  unfold zE qh
  refine y3y (step := Yn _ _) yW n (fun i => Sum.inl (n, ((List.length n : Nat) : Int), i)) (fun i o => Sum.inr (n, ((List.length n : Nat) : Int), i, o)) _ (fun o => some o) (by omega) ?_ ?_ ?_ ?_
  ·intro again i i0 i1
   have hw : Go.IntKind.wrap .i64 (i + 1) = i + 1 := w64 (by omega) (by omega)
   have hr : List.length (ym n i) ≤ 1048576 := h.2 _ (yI yW n i i0 i1)
   simp only [Yn, Bool.cond_eq_ite, decide_eq_true_eq, i0, i1, if_true, hw, KS _ hr, Option.bind_some]
   rw [if_pos (ysm _ _ (by decide))]
   rfl
  ·intro again i o i0 i1 i2
   have hw : Go.IntKind.wrap .i64 (i + 1) = i + 1 := w64 (by omega) (by omega)
   have hr : List.length (ym n i) ≤ 1048576 := h.2 _ (yI yW n i i0 i1)
   simp only [Yn, Bool.cond_eq_ite, decide_eq_true_eq, i0, i1, if_true, hw, KS _ hr, Option.bind_some]
   rw [if_pos (by simp only [List.length_cons, List.length_nil]; omega)]
   rfl
  ·intro again i hi
   simp only [Yn, Bool.cond_eq_ite, decide_eq_true_eq, if_neg hi]
  ·intro again i o hi
   simp only [Yn, Bool.cond_eq_ite, decide_eq_true_eq, if_neg hi]
 rw [e]
 split
 ·rename_i h0
  rw [List.length_eq_zero_iff.1 h0]
 ·rfl
theorem VP (q : List yd) (t : List y0) (hq : q.length ≤ 1048576) (ht : t.length ≤ 1048576) (hn : ∀ n ∈ t, y35 n) : Zm (q, t) = some (q, t) := by
 have e : Zm (q, t) = if t.length = 0 then some (q, ([] : List y0)) else some (q, t) := by
  unfold Zm QC
  simp only [List.length_nil, List.nil_append]
  rw [if_pos (by omega)]
  refine y3y (step := Z4 _ _) yi t (fun i => Sum.inl (i, q, t, q)) (fun i o => Sum.inr (i, q, t, q, o)) _ (fun o => some (q, o)) (by omega) ?_ ?_ ?_ ?_
  ·intro again i i0 i1
   have hw : Go.IntKind.wrap .i64 (i + 1) = i + 1 := w64 (by omega) (by omega)
   have hr : y35 (ye t i) := hn _ (yI yi t i i0 i1)
   simp only [Z4, Bool.cond_eq_ite, decide_eq_true_eq, i0, i1, if_true, hw, VO _ hr, Option.bind_some]
   rw [if_pos (ysm _ _ (by decide))]
   rfl
  ·intro again i o i0 i1 i2
   have hw : Go.IntKind.wrap .i64 (i + 1) = i + 1 := w64 (by omega) (by omega)
   have hr : y35 (ye t i) := hn _ (yI yi t i i0 i1)
   simp only [Z4, Bool.cond_eq_ite, decide_eq_true_eq, i0, i1, if_true, hw, VO _ hr, Option.bind_some]
   rw [if_pos (by simp only [List.length_cons, List.length_nil]; omega)]
   rfl
  ·intro again i hi
   simp only [Z4, Bool.cond_eq_ite, decide_eq_true_eq, if_neg hi]
  ·intro again i o hi
   simp only [Z4, Bool.cond_eq_ite, decide_eq_true_eq, if_neg hi]
 rw [e]
 split
 ·rename_i h0
  rw [List.length_eq_zero_iff.1 h0]
 ·rfl
theorem Qa (l : List yd) (h : l.length ≤ 1048576) : j9 l = some l := by
 unfold j9
 rw [if_pos (by simp only [List.length_nil]; omega)]
 rfl
theorem Qb (q : List yd) (t : List y0) (hq : q.length ≤ 1048576) (ht : t.length ≤ 1048576) (hn : ∀ n ∈ t, y35 n) : zF (q, t) = some (q, t) := by
 have e : zF (q, t) = if t.length = 0 then some (q, ([] : List y0)) else some (q, t) := by
  unfold zF qi
  simp only [Qa q hq, Option.bind_some]
  refine y3y (step := Yo _ _) yi t (fun i => Sum.inl (t, ((List.length t : Nat) : Int), i, q)) (fun i o => Sum.inr (t, ((List.length t : Nat) : Int), i, q, o)) _ (fun o => some (q, o)) (by omega) ?_ ?_ ?_ ?_
  ·intro again i i0 i1
   have hw : Go.IntKind.wrap .i64 (i + 1) = i + 1 := w64 (by omega) (by omega)
   have hr : y35 (ye t i) := hn _ (yI yi t i i0 i1)
   simp only [Yo, Bool.cond_eq_ite, decide_eq_true_eq, i0, i1, if_true, hw, KT _ hr, Option.bind_some]
   rw [if_pos (ysm _ _ (by decide))]
   rfl
  ·intro again i o i0 i1 i2
   have hw : Go.IntKind.wrap .i64 (i + 1) = i + 1 := w64 (by omega) (by omega)
   have hr : y35 (ye t i) := hn _ (yI yi t i i0 i1)
   simp only [Yo, Bool.cond_eq_ite, decide_eq_true_eq, i0, i1, if_true, hw, KT _ hr, Option.bind_some]
   rw [if_pos (by simp only [List.length_cons, List.length_nil]; omega)]
   rfl
  ·intro again i hi
   simp only [Yo, Bool.cond_eq_ite, decide_eq_true_eq, if_neg hi]
  ·intro again i o hi
   simp only [Yo, Bool.cond_eq_ite, decide_eq_true_eq, if_neg hi]
 rw [e]
 split
 ·rename_i h0
  rw [List.length_eq_zero_iff.1 h0]
 ·rfl
theorem kt (q : List yd) (t : List y0) (l : List y9) (cs : List y8) (vs : List yc) (z : Int) (h : small q t l cs vs) : yj (q, t, l, cs, vs, z) = some (q, t, l, cs, vs, z) := by
 obtain ⟨h1, h2, h3, h4, h5, h6⟩ := h
 unfold yj Y6
 simp only [VP q t h1 h2 (fun n hn => ve h3 hn), Option.bind_some, List.length_nil, List.nil_append]
 rw [if_pos (by omega), if_pos (by omega)]
 simp only [Option.bind_some]
 rw [if_pos (by omega)]
theorem Qc (q : List yd) (t : List y0) (l : List y9) (cs : List y8) (vs : List yc) (z : Int) (h : small q t l cs vs) : yQ (q, t, l, cs, vs, z) = some (q, t, l, cs, vs, z) := by
 obtain ⟨h1, h2, h3, h4, h5, h6⟩ := h
 unfold yQ zS zG
 simp only [Qb q t h1 h2 (fun n hn => ve h3 hn), Option.bind_some, List.length_nil, List.nil_append]
 rw [if_pos (by omega)]
 simp only [Option.bind_some]
 rw [if_pos (by omega)]
 simp only [Option.bind_some]
 rw [if_pos (by omega)]
end Go.Proofs.YtgediecndaheiaaGreat.Pl
namespace Go.Proofs.YtgediecndaheiaaGreat.Pl
open Go.Proofs.YtgediecndaheiaaGreat.R Go.Proofs.YtgediecndaheiaaGreat.XS
def yc6 (t : List y0) (l : List y9) (blk id : Int) : Bool × y7 := Y1 (zZ (yq t) blk) ((Yb l id).drop 1)
theorem yaS (ks : List y7) : Y1 ks [] = (false, (0, 0, 0, 0, 0)) := by
 unfold Y1
 induction ks with
 | nil => rfl
 | cons a ks ih =>
  rw [List.foldl_cons, show wZ [] (false, ((0 : Int), (0 : Int), (0 : Int), (0 : Int), (0 : Int))) a = (false, (0, 0, 0, 0, 0)) by
   unfold wZ yfE zX
   simp]
  exact ih
theorem y1O (q : List Int) (t : List y0) (l : List y9) (blk id : Int) (ht : TOk t) (hl : l.length ≤ 1048576) : Zc (q, t, l, blk, id) = some (ans (yc6 t l blk id)) := by
 unfold Zc yc6
 have hp := y2k l id hl
 simp only [y0O l id hl, Option.bind_some]
 generalize Yb l id = p at hp
 cases p with
 | nil =>
  rw [show List.drop 1 ([] : List Int) = [] from rfl, yaS]
  rfl
 | cons a p =>
  have h1 : (((a :: p).length : Int) == 0) = false := by
   simp only [List.length_cons, beq_eq_false_iff_ne, ne_eq]
   omega
  have h2 : (1 : Int) ≤ ((a :: p).length : Int) := by
   simp only [List.length_cons]
   omega
  have e : jy (q, t, blk, List.drop (Int.toNat (1 : Int)) (List.take (Int.toNat ((a :: p).length : Int)) (a :: p))) = some (ans (Y1 (zZ (yq t) blk) (List.drop 1 (a :: p)))) := by
   rw [show Int.toNat ((a :: p).length : Int) = (a :: p).length by omega, List.take_length]
   exact y2M q t blk _ ht (by simp only [List.length_drop]; omega)
  simp only [h1, cond_false, h2, Int.le_refl, if_true, e, Option.bind_some]
  rw [if_pos (by omega)]
def y95 (vs : List yc) (id : Int) : Bool := !YK (W0 id) vs 0
theorem y09 (q : List Int) (t : List y0) (l : List y9) (cs : List y8) (vs : List yc) (z id : Int) (hv : vs.length ≤ 1048576) : kP (q, t, l, cs, vs, z, id) = some (y95 vs id) := by
 unfold kP y1F y95
 refine (zU (step := WK _ _) (fun i => (id, i, q, t, l, cs, vs, z)) (W0 id) (some false) (some true) yp vs (by omega) ?_ ?_).trans ?_
 ·intro again i h0 h1
  have hw : Go.IntKind.wrap .i64 (i + 1) = i + 1 := w64 (by omega) (by omega)
  unfold WK W0
  have hx : vs.getD i.toNat yp = ya vs i := rfl
  rw [hx]
  simp only [Bool.cond_eq_ite, decide_eq_true_eq, h0, h1, if_true, hw]
 ·intro again i hi
  unfold WK
  simp only [Bool.cond_eq_ite, decide_eq_true_eq, if_neg hi]
 ·cases YK (W0 id) vs 0 <;> rfl
def W2 (q : List Int) (sp : Int) : Nat → Int
 | 0 => -1
 | n + 1 => if q.getD n 0 ≤ sp then (n : Int) else W2 q sp n
def Ja (blk age : Int) : Int := Go.IntKind.wrap .i64 (Go.IntKind.wrap .i64 ((64 : Int) * blk) + age)
theorem y5W (q : List Int) (sp : Int) : ∀ n, -1 ≤ W2 q sp n ∧ W2 q sp n < n
 | 0 => by simp [W2]
 | n + 1 => by
  have := y5W q sp n
  rw [W2]
  split <;> omega
theorem y0a (q : List Int) (t : List y0) (blk age : Int) (hq : q.length ≤ 1048576) : J0 (q, t, blk, age) = some (W2 q (Ja blk age) q.length) := by
 unfold J0 Q5
 have h := ZD (step := wO (fun x2 => some x2)) (fun u : wN => q.length - u.2.2.2.1.toNat) (fun u => ∃ n : Nat, n ≤ q.length ∧ u = (blk, age, W2 q (Ja blk age) n, (n : Int), q, t)) (fun _ => some (W2 q (Ja blk age) q.length)) ?_ (blk, age, -1, 0, q, t) ⟨0, by omega, rfl⟩ (by simp; omega)
 ·exact h
 ·rintro again u ⟨n, hn, rfl⟩ hag
  have hw : Go.IntKind.wrap .i64 ((n : Int) + 1) = ((n + 1 : Nat) : Int) := by rw [w64 (by omega) (by omega)]; omega
  unfold wO JW
  have h0 : 0 ≤ (n : Int) := by omega
  by_cases hlt : (n : Int) < (q.length : Int)
  ·have hx : zw q (n : Int) = q.getD n 0 := rfl
   simp only [Bool.cond_eq_ite, decide_eq_true_eq, hlt, h0, if_true, Option.bind_some, hw, hx]
   have e := hag (blk, age, W2 q (Ja blk age) (n + 1), ((n + 1 : Nat) : Int), q, t) ⟨n + 1, by omega, rfl⟩ (by simp only; omega)
   rw [W2] at e
   unfold Ja at e ⊢
   split
   ·rename_i hc
    rw [if_pos hc] at e
    exact e
   ·rename_i hc
    rw [if_neg hc] at e
    exact e
  ·rw [show n = q.length by omega]
   simp
theorem y0b (q : List Int) (t : List y0) (blk age : Int) (hq : q.length ≤ 1048576) : J2 (q, t, blk, age) = some (W2 q (Ja blk age) q.length) := by
 unfold J2 Q9
 rw [w64 (n := (q.length : Int) - 1) (by omega) (by omega)]
 have h := ZD (step := wR (fun x2 => some x2) (fun x3 => some (-1 : Int))) (fun u : wQ => (u.2.2.1 + 1).toNat) (fun u => ∃ n : Nat, n ≤ q.length ∧ u = (blk, age, (n : Int) - 1, q, t)) (fun u => some (W2 q (Ja blk age) (u.2.2.1 + 1).toNat)) ?_ (blk, age, (q.length : Int) - 1, q, t) ⟨q.length, by omega, rfl⟩ (by simp; omega)
 ·rw [h]
  simp only
  rw [show ((q.length : Int) - 1 + 1).toNat = q.length by omega]
 ·rintro again u ⟨n, hn, rfl⟩ hag
  unfold wR Zv
  cases n with
  | zero => simp [W2]
  | succ n =>
   have e1 : ((n + 1 : Nat) : Int) - 1 = (n : Int) := by omega
   have hw : Go.IntKind.wrap .i64 ((n : Int) - 1) = (n : Int) - 1 := w64 (by omega) (by omega)
   have hx : zw q (n : Int) = q.getD n 0 := rfl
   have h0 : 0 ≤ (n : Int) := by omega
   have h1 : (n : Int) < (q.length : Int) := by omega
   rw [e1]
   simp only [Bool.cond_eq_ite, decide_eq_true_eq, ge_iff_le, h0, h1, if_true, Option.bind_some, hw, hx]
   have e := hag (blk, age, (n : Int) - 1, q, t) ⟨n, by omega, rfl⟩ (by simp only; omega)
   rw [e]
   simp only
   rw [show ((n : Int) - 1 + 1).toNat = n by omega, show ((n : Int) + 1).toNat = n + 1 by omega, W2]
   unfold Ja
   split <;> rfl
abbrev Ans : Type := Int × Int × Int × Int × Int × Bool
def y4n : Ans := (0, 0, 0, 0, 0, false)
def atP (blk age : Int) (a : y7) : Bool := a.1 == blk && a.2.1 == age
def y0c (a : y7) : Ans := (a.1, a.2.1, a.2.2.1, a.2.2.2.1, a.2.2.2.2, true)
def Wf (l : List y7) (blk age : Int) : Ans := if zX (atP blk age) l 0 < 0 then y4n else y0c (y6 l (zX (atP blk age) l 0))
theorem y1P (l : List y7) (blk age : Int) (hl : l.length ≤ 1073741824) : W9 (l, blk, age) = some (Wf l blk age) := by
 unfold W9 y0K Wf
 refine (YU (step := wz _ _) (fun i => (l, blk, age, i, 0, 0, 0, 0, 0)) (atP blk age) (fun i => some (y0c (y6 l i))) (some y4n) yL l (by omega) ?_ ?_).trans ?_
 ·intro again i h0 h1
  have hw : Go.IntKind.wrap .i64 (i + 1) = i + 1 := w64 (by omega) (by omega)
  unfold wz atP y0c
  obtain ⟨⟨x1, x2, x3, x4, x5⟩, hx⟩ : ∃ x, y6 l i = x := ⟨_, rfl⟩
  have hx' : l.getD i.toNat yL = (x1, x2, x3, x4, x5) := hx
  rw [hx']
  simp only [Bool.cond_eq_ite, decide_eq_true_eq, h0, h1, if_true, hw, hx]
  cases (x1 == blk) <;> cases (x2 == age) <;> rfl
 ·intro again i hi
  unfold wz
  simp only [Bool.cond_eq_ite, decide_eq_true_eq, if_neg hi]
  rfl
 ·split <;> rfl
theorem y1Q (l : List y7) (blk age : Int) (hl : l.length ≤ 1073741824) : Wb (l, blk, age) = some (Wf l blk age) := by
 unfold Wb y0N Wf
 refine (YU (step := wH _ _) (fun i => (blk, age, l, (l.length : Int), i, 0, 0, 0, 0, 0)) (atP blk age) (fun i => some (y0c (y6 l i))) (some y4n) yL l (by omega) ?_ ?_).trans ?_
 ·intro again i h0 h1
  have hw : Go.IntKind.wrap .i64 (i + 1) = i + 1 := w64 (by omega) (by omega)
  unfold wH atP y0c
  obtain ⟨⟨x1, x2, x3, x4, x5⟩, hx⟩ : ∃ x, y6 l i = x := ⟨_, rfl⟩
  have hx' : l.getD i.toNat yL = (x1, x2, x3, x4, x5) := hx
  rw [hx']
  simp only [Bool.cond_eq_ite, decide_eq_true_eq, h0, h1, if_true, hw, hx]
  cases (x1 == blk) <;> cases (x2 == age) <;> rfl
 ·intro again i hi
  unfold wH
  simp only [Bool.cond_eq_ite, decide_eq_true_eq, if_neg hi]
  rfl
 ·split <;> rfl
def jF (n : List yb) (blk age : Int) : Nat → Ans
 | 0 => y4n
 | m + 1 => if (Wf (n.getD m yW) blk age).2.2.2.2.2 = true then (if ((Wf (n.getD m yW) blk age).2.2.1 == 0) = true then y4n else Wf (n.getD m yW) blk age) else jF n blk age m
theorem y5b (n : List yb) (blk age : Int) (hn : n.length ≤ 1048576) (hs : ∀ s ∈ n, List.length s ≤ 1073741824) : WD (n, blk, age) = some (jF n blk age n.length) := by
 unfold WD QE
 rw [w64 (n := (n.length : Int) - 1) (by omega) (by omega)]
 refine (ZD (step := WC _ _) (fun u : WB => (u.2.2.1 + 1).toNat) (fun u => ∃ m : Nat, m ≤ n.length ∧ u = (blk, age, (m : Int) - 1, n, 0, 0, 0, 0, 0)) (fun u => some (jF n blk age (u.2.2.1 + 1).toNat)) ?_ (blk, age, (n.length : Int) - 1, n, 0, 0, 0, 0, 0) ⟨n.length, by omega, rfl⟩ (by simp; omega)).trans ?_
 ·rintro again u ⟨m, hm, rfl⟩ hag
  unfold WC
  cases m with
  | zero => rfl
  | succ m =>
   have e1 : ((m + 1 : Nat) : Int) - 1 = (m : Int) := by omega
   have hw : Go.IntKind.wrap .i64 ((m : Int) - 1) = (m : Int) - 1 := w64 (by omega) (by omega)
   have h0 : 0 ≤ (m : Int) := by omega
   have h1 : (m : Int) < (n.length : Int) := by omega
   have e := y1P (ym n (m : Int)) blk age (hs _ (yI yW n (m : Int) h0 h1))
   have hx : n.getD m yW = ym n (m : Int) := rfl
   rw [e1]
   simp only [Bool.cond_eq_ite, decide_eq_true_eq, ge_iff_le, h0, h1, if_true, Option.bind_some, hw, e]
   have e' := hag (blk, age, (m : Int) - 1, n, 0, 0, 0, 0, 0) ⟨m, by omega, rfl⟩ (by simp only; omega)
   rw [e', show ((m : Int) + 1).toNat = m + 1 by omega, jF, hx]
   simp only
   rw [show ((m : Int) - 1 + 1).toNat = m by omega]
   obtain ⟨r1, r2, r3, r4, r5, r6⟩ := Wf (ym n (m : Int)) blk age
   cases r6
   ·rfl
   ·cases h3 : (r3 == 0) <;> simp [h3, y4n]
 ·simp only
  rw [show ((n.length : Int) - 1 + 1).toNat = n.length by omega]
theorem y5c (n : List yb) (blk age : Int) (hn : n.length ≤ 1048576) (hs : ∀ s ∈ n, List.length s ≤ 1073741824) : kj (n, blk, age) = some (jF n blk age n.length) := by
 unfold kj y01
 rw [w64 (n := (n.length : Int) - 1) (by omega) (by omega)]
 refine (ZD (step := ki _ _) (fun u : kh => (u.2.2.1 + 1).toNat) (fun u => ∃ m : Nat, m ≤ n.length ∧ u = (blk, age, (m : Int) - 1, n, 0, 0, 0, 0, 0)) (fun u => some (jF n blk age (u.2.2.1 + 1).toNat)) ?_ (blk, age, (n.length : Int) - 1, n, 0, 0, 0, 0, 0) ⟨n.length, by omega, rfl⟩ (by simp; omega)).trans ?_
 ·rintro again u ⟨m, hm, rfl⟩ hag
  unfold ki
  cases m with
  | zero => rfl
  | succ m =>
   have e1 : ((m + 1 : Nat) : Int) - 1 = (m : Int) := by omega
   have hw : Go.IntKind.wrap .i64 ((m : Int) - 1) = (m : Int) - 1 := w64 (by omega) (by omega)
   have h0 : 0 ≤ (m : Int) := by omega
   have h1 : (m : Int) < (n.length : Int) := by omega
   have e := y1Q (ym n (m : Int)) blk age (hs _ (yI yW n (m : Int) h0 h1))
   have hx : n.getD m yW = ym n (m : Int) := rfl
   rw [e1]
   simp only [Bool.cond_eq_ite, decide_eq_true_eq, ge_iff_le, h0, h1, if_true, Option.bind_some, hw, e]
   have e' := hag (blk, age, (m : Int) - 1, n, 0, 0, 0, 0, 0) ⟨m, by omega, rfl⟩ (by simp only; omega)
   rw [e', show ((m : Int) + 1).toNat = m + 1 by omega, jF, hx]
   simp only
   rw [show ((m : Int) - 1 + 1).toNat = m by omega]
   obtain ⟨r1, r2, r3, r4, r5, r6⟩ := Wf (ym n (m : Int)) blk age
   cases r6
   ·rfl
   ·cases h3 : (r3 == 0) <;> simp [h3, y4n]
 ·simp only
  rw [show ((n.length : Int) - 1 + 1).toNat = n.length by omega]
def Za (q : List Int) (t : List y0) (blk age : Int) : Ans :=
 if inR (W2 q (Ja blk age) q.length) 0 ((t.length : Int) - 1) = true then jF (ye t (W2 q (Ja blk age) q.length)) blk age (ye t (W2 q (Ja blk age) q.length)).length else y4n
theorem Kr (q : List Int) (t : List y0) (blk age : Int) (ht : TOk t) (hq : q.length ≤ 1048576) : jx (q, t, blk, age) = some (Za q t blk age) := by
 unfold jx Za
 have hlen := ht.len
 rw [w64 (n := (t.length : Int) - 1) (by omega) (by omega)]
 simp only [y0a q t blk age hq, Z8, Option.bind_some]
 generalize W2 q (Ja blk age) q.length = i
 by_cases h : inR i 0 ((t.length : Int) - 1) = true
 ·obtain ⟨h0, h1⟩ := zp.1 h
  have hmem : ye t i ∈ t := yI yi t i h0 (by omega)
  obtain ⟨a1, a2⟩ := ht.node hmem
  have e := y5b (ye t i) blk age a1 (fun s hs => by have := a2 s hs; omega)
  rw [h, if_pos h0, if_pos (by omega), e]
  rfl
 ·have : inR i 0 ((t.length : Int) - 1) = false := by simpa using h
  rw [this]
  rfl
theorem y5d (q : List Int) (t : List y0) (blk age : Int) (ht : TOk t) (hq : q.length ≤ 1048576) : kl (q, t, blk, age) = some (Za q t blk age) := by
 unfold kl Za
 have hlen := ht.len
 rw [w64 (n := (t.length : Int) - 1) (by omega) (by omega)]
 simp only [y0b q t blk age hq, ZF, Option.bind_some]
 generalize W2 q (Ja blk age) q.length = i
 by_cases h : inR i 0 ((t.length : Int) - 1) = true
 ·obtain ⟨h0, h1⟩ := zp.1 h
  have hmem : ye t i ∈ t := yI yi t i h0 (by omega)
  obtain ⟨a1, a2⟩ := ht.node hmem
  have e := y5c (ye t i) blk age a1 (fun s hs => by have := a2 s hs; omega)
  rw [h, if_pos h0, if_pos (by omega), e]
  rfl
 ·have : inR i 0 ((t.length : Int) - 1) = false := by simpa using h
  rw [this]
  rfl
end Go.Proofs.YtgediecndaheiaaGreat.Pl
namespace Go.Proofs.YtgediecndaheiaaGreat.Pl
open Go.Proofs.YtgediecndaheiaaGreat.R Go.Proofs.YtgediecndaheiaaGreat.XS
structure NS (n : List yb) : Prop where
 len : n.length ≤ 1000
 sum : km VS n ≤ 1000
theorem NS.mem {n : List yb} (h : NS n) {s : yb} (hs : s ∈ n) : List.length s ≤ 1000 := by
 have h1 := (y0q K7 hs).1
 have h2 := h.sum
 have h3 : VS s = (List.length s : Int) := rfl
 omega
theorem NS.q {n : List yb} (h : NS n) : y35 n := ⟨Nat.le_trans h.len (by decide), fun b hb => Nat.le_trans (h.mem hb) (by decide)⟩
theorem NS.keys {n : List yb} (h : NS n) : (yE n).length ≤ 1000 := by
 have h1 := KD n
 have h2 := h.sum
 omega
def we (n : List yb) : yb := n.getD (n.length - 1) yW
theorem y4o {n : List yb} (h : 0 < n.length) : we n ∈ n := by
 unfold we
 rw [zd _ _ _ (by omega)]
 exact List.getElem_mem _
def wL (n : List yb) (k : y7) : List yb :=
 if 0 < n.length ∧ (List.length (we n) < 4 ∨ (Wf (we n) k.1 k.2.1).2.2.2.2.2 = true) then n.set (n.length - 1) (Yr (we n) k) else n ++ [[k]]
def Yq (n : List yb) (k : y7) : List y7 := K6 (Yr (yE n) k)
def zt (n : List yb) (k : y7) : List yb × Bool :=
 if YF (wL n k) = true then (wL n k, true) else if (Yq n k).length > 8 then (n, false) else if YF (yU (Yq n k)) = true then (yU (Yq n k), true) else (n, false)
theorem yf4 (l : List y7) : (K6 l).length ≤ l.length := by
 have := y4d l []
 simpa [K6] using this
theorem y1R (n : List yb) (k : y7) : (Yq n k).length ≤ (yE n).length + 1 := by
 have h1 := yf4 (Yr (yE n) k)
 have h2 := Wc (yE n) k
 unfold Yq
 omega
theorem JR (l : List y7) (h : l.length ≤ 1048576) : yV l = some (yU l) := by
 unfold yV yU
 by_cases h0 : l.length = 0
 ·rw [if_pos h0, show (((List.length l : Nat) : Int) == 0) = true from beq_iff_eq.2 (by omega)]
  rfl
 ·rw [if_neg h0, show (((List.length l : Nat) : Int) == 0) = false from beq_eq_false_iff_ne.2 (by omega), cond_false, if_pos (by simp only [List.length_nil]; omega)]
  rfl
theorem ku (l : List y7) (h : l.length ≤ 1048576) : zu l = some (yU l) := by
 unfold zu yU
 by_cases h0 : l.length = 0
 ·rw [if_pos h0, show (((List.length l : Nat) : Int) == 0) = true from beq_iff_eq.2 (by omega)]
  rfl
 ·rw [if_neg h0, show (((List.length l : Nat) : Int) == 0) = false from beq_eq_false_iff_ne.2 (by omega), cond_false, KS l h]
  rfl
theorem y0u {l : List y7} (h : l.length ≤ 1000) : NS (yU l) := by
 unfold yU
 split
 ·exact ⟨by simp, by simp [km]⟩
 ·exact ⟨by simp, by simp [km, VS]; omega⟩
theorem y4p (l : List y7) : (yU l).length ≤ 1 ∧ km VS (yU l) ≤ l.length := by
 unfold yU
 split
 ·exact ⟨by simp, by simp [km]⟩
 ·exact ⟨by simp, by simp [km, VS]⟩
theorem ylk {n : List yb} (i : Nat) (s : yb) (hi : i < n.length) : km VS (n.set i s) = km VS n - VS (n.getD i yW) + VS s := by
 induction n generalizing i with
 | nil => simp at hi
 | cons a n ih =>
  cases i with
  | zero =>
   rw [List.set_cons_zero, Yi, Yi]
   simp
   omega
  | succ i =>
   rw [List.set_cons_succ, Yi, Yi, ih i (by simpa using hi), List.getD_cons_succ]
   omega
theorem yf5 {A : Type} (w : A → Int) (l : List A) (a : A) : km w (l ++ [a]) = km w l + w a := by
 induction l with
 | nil => simp [km]
 | cons b l ih =>
  rw [List.cons_append, Yi, Yi, ih]
  omega
theorem y2m (n : List yb) (k : y7) : (wL n k).length ≤ n.length + 1 ∧ km VS (wL n k) ≤ km VS n + 1 := by
 unfold wL
 split
 ·rename_i h
  have h1 := Wc (we n) k
  have h2 : VS (Yr (we n) k) ≤ VS (we n) + 1 := by
   unfold VS
   have : List.length (Yr (we n) k) ≤ List.length (we n) + 1 := h1
   omega
  rw [List.length_set, ylk _ _ (by omega)]
  have e : n.getD (n.length - 1) yW = we n := rfl
  rw [e]
  constructor <;> omega
 ·rw [yf5, List.length_append]
  have e : VS [k] = 1 := rfl
  rw [e]
  exact ⟨Nat.le_refl _, Int.le_refl _⟩
theorem NS.small {n : List yb} (h1 : n.length ≤ 1001) (h2 : km VS n ≤ 1001) : n.length ≤ 1073741824 ∧ ∀ s ∈ n, List.length s ≤ 1073741824 := by
 refine ⟨by omega, fun s hs => ?_⟩
 have h3 := (y0q K7 hs).1
 have h4 : VS s = (List.length s : Int) := rfl
 omega
section
variable (n : List yb) (a b c d e : Int) (h : NS n)
include h
theorem y4q : wA (n, a, b, c, d, e) = some (zt n (a, b, c, d, e)) := by
 have hk := h.keys
 have hl := h.len
 have hs := h.sum
 have hW := y1R n (a, b, c, d, e)
 have hN := y4p (Yq n (a, b, c, d, e))
 have hN2 := NS.small (n := yU (Yq n (a, b, c, d, e))) (by omega) (by omega)
 have hO := y2m n (a, b, c, d, e)
 have hO2 := NS.small (n := wL n (a, b, c, d, e)) (by omega) (by omega)
 have hw : Go.IntKind.wrap .i64 ((n.length : Int) - 1) = (n.length : Int) - 1 := w64 (by omega) (by omega)
 have hT : ∀ out, out = wL n (a, b, c, d, e) → (Option.bind (zm out) fun r6 => bif r6 then some (out, true) else Option.bind (yA n) fun r7 => Option.bind (zH (r7, a, b, c, d, e)) fun r8 => Option.bind (Y5 r8) fun r9 => bif (decide (((List.length r9 : Nat) : Int) > (8 : Int))) then some (n, false) else Option.bind (yV r9) fun r11 => Option.bind (zm r11) fun r12 => bif (!r12) then some (n, false) else Option.bind (yV r9) fun r14 => some (r14, true)) = some (zt n (a, b, c, d, e)) := by
  rintro out rfl
  have e1 : Y5 (Yr (yE n) (a, b, c, d, e)) = some (Yq n (a, b, c, d, e)) := y05 _ (by have := Wc (yE n) (a, b, c, d, e); omega)
  simp only [VJ _ hO2.1 hO2.2, Zg n (by omega) (by omega), Ko (yE n) a b c d e (by omega), e1, JR (Yq n (a, b, c, d, e)) (by omega), VJ _ hN2.1 hN2.2, Option.bind_some]
  unfold zt
  cases YF (wL n (a, b, c, d, e)) with
  | true => rfl
  | false =>
   by_cases h8 : (Yq n (a, b, c, d, e)).length > 8
   ·rw [decide_eq_true (show ((List.length (Yq n (a, b, c, d, e)) : Nat) : Int) > 8 by omega), if_pos h8]
    rfl
   ·rw [decide_eq_false (show ¬ ((List.length (Yq n (a, b, c, d, e)) : Nat) : Int) > 8 by omega), if_neg h8]
    cases YF (yU (Yq n (a, b, c, d, e))) <;> rfl
 unfold wA
 simp only [VO n h.q, Option.bind_some, hw]
 by_cases h0 : n.length = 0
 ·have e1 : ¬ (0 < n.length ∧ (List.length (we n) < 4 ∨ (Wf (we n) a b).2.2.2.2.2 = true)) := fun hh => by omega
  simp only [decide_eq_false (show ¬ ((n.length : Int) - 1 ≥ 0) by omega), cond_false, Option.bind_some]
  rw [if_pos (by simp only [List.length_cons, List.length_nil]; omega)]
  exact hT _ (by unfold wL; rw [if_neg e1])
 ·have i0 : 0 ≤ (n.length : Int) - 1 := by omega
  have i1 : (n.length : Int) - 1 < ((List.length n : Nat) : Int) := by omega
  have hlm := h.mem (y4o (n := n) (by omega))
  have erd : ym n ((n.length : Int) - 1) = we n := by
   show n.getD ((n.length : Int) - 1).toNat yW = n.getD (n.length - 1) yW
   congr 1
   omega
  have etn : ((n.length : Int) - 1).toNat = n.length - 1 := by omega
  rw [decide_eq_true (show (n.length : Int) - 1 ≥ 0 from i0)]
  simp only [cond_true, i0, i1, if_true, erd, etn, y1P (we n) a b (by omega), Ko (we n) a b c d e (by omega), Option.bind_some]
  by_cases h4 : List.length (we n) < 4
  ·rw [decide_eq_true (show ((List.length (we n) : Nat) : Int) < 4 by omega)]
   exact hT _ (by unfold wL; rw [if_pos ⟨by omega, .inl h4⟩])
  ·rw [decide_eq_false (show ¬ ((List.length (we n) : Nat) : Int) < 4 by omega)]
   cases hA : (Wf (we n) a b).2.2.2.2.2 with
   | true => exact hT _ (by unfold wL; rw [if_pos ⟨by omega, .inr hA⟩])
   | false =>
    simp only [cond_false, Option.bind_some]
    rw [if_pos (by simp only [List.length_cons, List.length_nil]; omega)]
    exact hT _ (by
     unfold wL
     rw [if_neg fun hh => ?_]
     rcases hh.2 with hh | hh
     ·exact h4 hh
     ·rw [hA] at hh
      cases hh)
theorem Qd : zT (n, a, b, c, d, e) = some (Yq n (a, b, c, d, e)) := by
 have hk := h.keys
 have hl := h.len
 have hs := h.sum
 have e1 : Jw (Yr (yE n) (a, b, c, d, e)) = some (Yq n (a, b, c, d, e)) := y2L _ (by have := Wc (yE n) (a, b, c, d, e); omega)
 unfold zT
 simp only [jX n (by omega) (by omega), VI (yE n) a b c d e (by omega), e1, Option.bind_some]
theorem y4r : wI (n, a, b, c, d, e) = some (zt n (a, b, c, d, e)) := by
 have hk := h.keys
 have hl := h.len
 have hs := h.sum
 have hW := y1R n (a, b, c, d, e)
 have hN := y4p (Yq n (a, b, c, d, e))
 have hN2 := NS.small (n := yU (Yq n (a, b, c, d, e))) (by omega) (by omega)
 have hO := y2m n (a, b, c, d, e)
 have hO2 := NS.small (n := wL n (a, b, c, d, e)) (by omega) (by omega)
 have hw : Go.IntKind.wrap .i64 ((n.length : Int) - 1) = (n.length : Int) - 1 := w64 (by omega) (by omega)
 have hT : ∀ out, out = wL n (a, b, c, d, e) → (Option.bind (zJ out) fun r5 => bif r5 then some (out, true) else Option.bind (zT (n, a, b, c, d, e)) fun r6 => Option.bind (zu r6) fun r7 => Option.bind (bif (decide (((List.length r6 : Nat) : Int) > (8 : Int))) then some true else Option.bind (zJ r7) fun r9 => some (!r9)) fun u8 => bif u8 then some (n, false) else some (r7, true)) = some (zt n (a, b, c, d, e)) := by
  rintro out rfl
  simp only [VK _ hO2.1 hO2.2, Qd n a b c d e h, ku (Yq n (a, b, c, d, e)) (by omega), VK _ hN2.1 hN2.2, Option.bind_some]
  unfold zt
  cases YF (wL n (a, b, c, d, e)) with
  | true => rfl
  | false =>
   by_cases h8 : (Yq n (a, b, c, d, e)).length > 8
   ·rw [decide_eq_true (show ((List.length (Yq n (a, b, c, d, e)) : Nat) : Int) > 8 by omega), if_pos h8]
    rfl
   ·rw [decide_eq_false (show ¬ ((List.length (Yq n (a, b, c, d, e)) : Nat) : Int) > 8 by omega), if_neg h8]
    cases YF (yU (Yq n (a, b, c, d, e))) <;> rfl
 unfold wI
 simp only [KT n h.q, Option.bind_some, hw]
 by_cases h0 : n.length = 0
 ·have e1 : ¬ (0 < n.length ∧ (List.length (we n) < 4 ∨ (Wf (we n) a b).2.2.2.2.2 = true)) := fun hh => by omega
  simp only [decide_eq_false (show ¬ ((n.length : Int) - 1 ≥ 0) by omega), cond_false, Option.bind_some]
  rw [if_pos (by simp only [List.length_cons, List.length_nil]; omega)]
  exact hT _ (by unfold wL; rw [if_neg e1])
 ·have i0 : 0 ≤ (n.length : Int) - 1 := by omega
  have i1 : (n.length : Int) - 1 < ((List.length n : Nat) : Int) := by omega
  have hlm := h.mem (y4o (n := n) (by omega))
  have erd : ym n ((n.length : Int) - 1) = we n := by
   show n.getD ((n.length : Int) - 1).toNat yW = n.getD (n.length - 1) yW
   congr 1
   omega
  have etn : ((n.length : Int) - 1).toNat = n.length - 1 := by omega
  rw [decide_eq_true (show (n.length : Int) - 1 ≥ 0 from i0)]
  simp only [cond_true, i0, i1, if_true, erd, etn, y1Q (we n) a b (by omega), VI (we n) a b c d e (by omega), Option.bind_some]
  cases hA : (Wf (we n) a b).2.2.2.2.2 with
  | true => exact hT _ (by unfold wL; rw [if_pos ⟨by omega, .inr hA⟩])
  | false =>
   by_cases h4 : List.length (we n) < 4
   ·rw [decide_eq_true (show ((List.length (we n) : Nat) : Int) < 4 by omega)]
    exact hT _ (by unfold wL; rw [if_pos ⟨by omega, .inl h4⟩])
   ·rw [decide_eq_false (show ¬ ((List.length (we n) : Nat) : Int) < 4 by omega)]
    simp only [cond_false, Option.bind_some]
    rw [if_pos (by simp only [List.length_cons, List.length_nil]; omega)]
    exact hT _ (by
     unfold wL
     rw [if_neg fun hh => ?_]
     rcases hh.2 with hh | hh
     ·exact h4 hh
     ·rw [hA] at hh
      cases hh)
end
end Go.Proofs.YtgediecndaheiaaGreat.Pl
namespace Go.Proofs.YtgediecndaheiaaGreat.Pl
open Go.Proofs.YtgediecndaheiaaGreat.R Go.Proofs.YtgediecndaheiaaGreat.XS
structure TS (t : List y0) : Prop where
 len : t.length ≤ 100
 node : ∀ n ∈ t, NS n
theorem TS.ok {t : List y0} (h : TS t) : TOk t := by
 have hl := h.len
 refine ⟨by omega, fun n hn => Nat.le_trans (h.node n hn).len (by decide), ?_⟩
 have hb : ∀ (t : List y0), (∀ n ∈ t, NS n) → km Qi t ≤ 2000 * t.length := by
  intro t
  induction t with
  | nil => intro _; simp [km]
  | cons a t ih =>
   intro hn
   have h1 := ih fun n h => hn n (by simp [h])
   have h2 := hn a (by simp)
   have h3 : Qi a = (List.length a : Int) + km VS a := rfl
   have h4 : List.length a ≤ 1000 := h2.len
   have h5 : km VS a ≤ 1000 := h2.sum
   rw [Yi, List.length_cons]
   omega
 have := hb t h.node
 omega
def zi {A : Type} (l : List A) (i c : Nat) (m : List A) : List A := l.take i ++ m ++ l.drop (i + c)
theorem wg {A : Type} (l : List A) (i c : Nat) (m : List A) (h : i + c ≤ l.length) : (zi l i c m).length = l.length + m.length - c := by
 unfold zi
 simp only [List.length_append, List.length_take, List.length_drop]
 omega
theorem ydj {A : Type} {l : List A} {i c : Nat} {m : List A} {x : A} (h : x ∈ zi l i c m) : x ∈ l ∨ x ∈ m := by
 unfold zi at h
 rcases List.mem_append.1 h with h | h
 ·rcases List.mem_append.1 h with h | h
  ·exact .inl (List.mem_of_mem_take h)
  ·exact .inr h
 ·exact .inl (List.mem_of_mem_drop h)
theorem y2n {A : Type} (l : List A) (i : Nat) (x : A) (h : i < l.length) : zi l i 1 [x] = l.set i x := by
 unfold zi
 rw [List.set_eq_take_append_cons_drop, if_pos h]
 simp
theorem ydk {A : Type} (d : A) (l : List A) (i : Nat) (h : i + 2 ≤ l.length) : zi l i 2 [l.getD i d] = l.take (i + 1) ++ l.drop (i + 2) := by
 unfold zi
 rw [zd _ _ _ (by omega), List.take_succ_eq_append_getElem (by omega)]
theorem TS.splice {t : List y0} (h : TS t) {i c : Nat} {m : List y0} (hl : (zi t i c m).length ≤ 100) (hm : ∀ n ∈ m, NS n) : TS (zi t i c m) :=
 ⟨hl, fun n hn => (ydj hn).elim (h.node n) (hm n)⟩
theorem qP (q : List Int) (t : List y0) (i : Int) (ql : List Int) (tl : List y0) (h0 : 0 ≤ i) (h1 : i < (q.length : Int)) (h2 : i < (t.length : Int)) (hq : q.length ≤ 1000) (ht : t.length ≤ 1000) (hql : ql.length ≤ 1000) (htl : tl.length ≤ 1000) :
  Jo (q, t, i, ql, tl) = some (zi q i.toNat 1 ql, zi t i.toNat 1 tl) := by
 have hw : Go.IntKind.wrap .i64 (i + 1) = i + 1 := w64 (by omega) (by omega)
 have e1 : (i + 1).toNat = i.toNat + 1 := by omega
 unfold Jo
 simp only [hw]
 iterate 18 rw [if_pos (by first | omega | (simp only [List.length_append, List.length_drop, List.length_take, List.length_nil]; omega))]
 simp [zi, e1]
theorem KU (q : List Int) (t : List y0) (i c : Int) (ql : List Int) (tl : List y0) (h0 : 0 ≤ i) (hc : 0 ≤ c) (h1 : i + c ≤ (q.length : Int)) (h2 : i + c ≤ (t.length : Int)) (hq : q.length ≤ 1000) (ht : t.length ≤ 1000) (hql : ql.length ≤ 1000) (htl : tl.length ≤ 1000) :
  Y9 (q, t, i, c, ql, tl) = some (zi q i.toNat c.toNat ql, zi t i.toNat c.toNat tl) := by
 have hw : Go.IntKind.wrap .i64 (i + c) = i + c := w64 (by omega) (by omega)
 have e1 : (i + c).toNat = i.toNat + c.toNat := by omega
 have e2 : List.drop (Int.toNat 0) (List.take (Int.toNat i) q) = q.take i.toNat := rfl
 unfold Y9
 simp only [hw]
 iterate 3 rw [if_pos (by omega)]
 rw [e2, Qa _ (by rw [List.length_take]; omega)]
 simp only [Option.bind_some]
 iterate 14 rw [if_pos (by first | omega | (simp only [List.length_append, List.length_drop, List.length_take, List.length_nil]; omega))]
 simp [zi, e1]
def yO : List y0 → Int → Int
 | a :: b :: r, i => if (yE a).length + (yE b).length ≤ 6 then i else yO (b :: r) (i + 1)
 | _, _ => -1
theorem y4s (l : List y0) (i : Int) (h : l.length ≤ 1) : yO l i = -1 := by
 match l, h with
 | [], _ => rfl
 | [_], _ => rfl
theorem y2o : ∀ (l : List y0) (i : Int), yO l i = -1 ∨ i ≤ yO l i ∧ yO l i + 2 ≤ i + l.length ∧ (yE (l.getD (yO l i - i).toNat yi)).length + (yE (l.getD (yO l i - i + 1).toNat yi)).length ≤ 6
 | [], _ => .inl rfl
 | [_], _ => .inl rfl
 | a :: b :: r, i => by
  rw [yO]
  by_cases h : (yE a).length + (yE b).length ≤ 6
  ·rw [if_pos h]
   refine .inr ⟨Int.le_refl _, by simp only [List.length_cons]; omega, ?_⟩
   rw [show (i - i).toNat = 0 by omega, show (i - i + 1).toNat = 1 by omega]
   exact h
  ·rw [if_neg h]
   rcases y2o (b :: r) (i + 1) with h1 | ⟨h1, h2, h3⟩
   ·exact .inl h1
   ·refine .inr ⟨by omega, by simp only [List.length_cons] at h2 ⊢; omega, ?_⟩
    rw [show (yO (b :: r) (i + 1) - i).toNat = (yO (b :: r) (i + 1) - (i + 1)).toNat + 1 by omega, show (yO (b :: r) (i + 1) - i + 1).toNat = (yO (b :: r) (i + 1) - (i + 1) + 1).toNat + 1 by omega, List.getD_cons_succ, List.getD_cons_succ]
    exact h3
theorem yc7 (t : List y0) (i : Int) (h0 : 0 ≤ i) (h1 : i + 1 < (t.length : Int)) : yO (t.drop i.toNat) i = if (yE (ye t i)).length + (yE (ye t (i + 1))).length ≤ 6 then i else yO (t.drop (i + 1).toNat) (i + 1) := by
 rw [wK yi t i h0 (by omega), wK yi t (i + 1) (by omega) h1, yO]
 rfl
theorem nk {t : List y0} (h : TS t) {i : Int} (h0 : 0 ≤ i) (h1 : i < (t.length : Int)) : NS (ye t i) := h.node _ (yI yi t i h0 h1)
theorem Vf {t : List y0} (h : TS t) {i : Int} (h0 : 0 ≤ i) (h1 : i < (t.length : Int)) : yA (ye t i) = some (yE (ye t i)) := by
 have hn := nk h h0 h1
 exact Zg _ (Nat.le_trans hn.len (by decide)) (Int.le_trans hn.sum (by decide))
theorem y4t {t : List y0} (h : TS t) {i : Int} (h0 : 0 ≤ i) (h1 : i < (t.length : Int)) : yP (ye t i) = some (yE (ye t i)) := by
 have hn := nk h h0 h1
 exact jX _ (Nat.le_trans hn.len (by decide)) (Int.le_trans hn.sum (by decide))
theorem y2O (q : List Int) (t : List y0) (h : TS t) : w6 (q, t) = some (yO t 0) := by
 have hl := h.len
 unfold w6 QG
 refine ZD (step := WE _ _) (fun x : Int × List Int × List y0 => t.length - x.1.toNat) (fun x => x.2.2 = t ∧ 0 ≤ x.1 ∧ x.1 ≤ (t.length : Int)) (fun x => some (yO (t.drop x.1.toNat) x.1)) ?_ (0, q, t) ⟨rfl, Int.le_refl _, by simp⟩ (by simp; omega)
 rintro again ⟨i, q', t'⟩ ⟨rfl, i0, i1⟩ hag
 simp only at i0 i1 hl h ⊢
 unfold WE
 by_cases hi : i + 1 < (t'.length : Int)
 ·have hw : Go.IntKind.wrap .i64 (i + 1) = i + 1 := w64 (by omega) (by omega)
  have k1 := nk h i0 (show i < (t'.length : Int) by omega)
  have k2 := nk h (show 0 ≤ i + 1 by omega) hi
  have hw2 : Go.IntKind.wrap .i64 (((List.length (yE (ye t' i)) : Nat) : Int) + ((List.length (yE (ye t' (i + 1))) : Nat) : Int)) = ((List.length (yE (ye t' i)) : Nat) : Int) + ((List.length (yE (ye t' (i + 1))) : Nat) : Int) := w64 (by omega) (by have := k1.keys; have := k2.keys; omega)
  simp only [hw, Vf h i0 (show i < (t'.length : Int) by omega), Vf h (show 0 ≤ i + 1 by omega) hi, Option.bind_some, hw2]
  rw [decide_eq_true hi, cond_true, if_pos i0, if_pos (by omega), if_pos (by omega), if_pos hi, yc7 t' i i0 hi]
  by_cases h6 : (yE (ye t' i)).length + (yE (ye t' (i + 1))).length ≤ 6
  ·rw [decide_eq_true (show ((List.length (yE (ye t' i)) : Nat) : Int) + ((List.length (yE (ye t' (i + 1))) : Nat) : Int) ≤ 6 by omega), if_pos h6]
   rfl
  ·rw [decide_eq_false (show ¬ ((List.length (yE (ye t' i)) : Nat) : Int) + ((List.length (yE (ye t' (i + 1))) : Nat) : Int) ≤ 6 by omega), if_neg h6]
   exact hag _ ⟨rfl, by simp only; omega, by simp only; omega⟩ (by simp only; omega)
 ·have hw : ¬ Go.IntKind.wrap .i64 (i + 1) < (t'.length : Int) := by
   rw [w64 (by omega) (by omega)]
   exact hi
  rw [decide_eq_false hw, y4s _ _ (by rw [List.length_drop]; omega)]
  rfl
def wl : Nat → List Int → List y0 → List Int × List y0
 | 0, q, t => (q, t)
 | m + 1, q, t => if yO t 0 < 0 then (q, t) else wl m (zi q (yO t 0).toNat 2 [q.getD (yO t 0).toNat 0]) (zi t (yO t 0).toNat 2 [yU (yE (t.getD (yO t 0).toNat yi) ++ yE (t.getD (yO t 0 + 1).toNat yi))])
section
variable {q : List Int} {t : List y0} (h : TS t) (hq : q.length = t.length) (hp : ¬ yO t 0 < 0)
include h hp
omit h in
theorem y7H : 0 ≤ yO t 0 ∧ yO t 0 + 2 ≤ (t.length : Int) ∧ (yE (ye t (yO t 0))).length + (yE (ye t (yO t 0 + 1))).length ≤ 6 := by
 rcases y2o t 0 with h1 | ⟨h1, h2, h3⟩
 ·omega
 ·refine ⟨h1, by omega, ?_⟩
  rw [Int.sub_zero] at h3
  exact h3
theorem yaT : TS (zi t (yO t 0).toNat 2 [yU (yE (ye t (yO t 0)) ++ yE (ye t (yO t 0 + 1)))]) := by
 obtain ⟨h1, h2, h3⟩ := y7H hp
 have hl := h.len
 refine h.splice (by rw [wg _ _ _ _ (by omega)]; simp only [List.length_cons, List.length_nil]; omega) fun n hn => ?_
 obtain rfl := List.mem_singleton.1 hn
 exact y0u (by rw [List.length_append]; omega)
include hq
theorem yc8 : (zi t (yO t 0).toNat 2 [yU (yE (ye t (yO t 0)) ++ yE (ye t (yO t 0 + 1)))]).length = t.length - 1 ∧ (zi q (yO t 0).toNat 2 [q.getD (yO t 0).toNat 0]).length = t.length - 1 := by
 obtain ⟨h1, h2, h3⟩ := y7H hp
 rw [wg _ _ _ _ (by omega), wg _ _ _ _ (by omega)]
 simp only [List.length_cons, List.length_nil]
 omega
theorem y5X : wl t.length q t = wl (t.length - 1) (zi q (yO t 0).toNat 2 [q.getD (yO t 0).toNat 0]) (zi t (yO t 0).toNat 2 [yU (yE (ye t (yO t 0)) ++ yE (ye t (yO t 0 + 1)))]) := by
 obtain ⟨h1, h2, h3⟩ := y7H hp
 rw [show t.length = (t.length - 1) + 1 by omega, wl, if_neg hp]
 rfl
end
theorem y96 {q : List Int} {t : List y0} (m : Nat) (hp : yO t 0 < 0) : wl m q t = (q, t) := by
 cases m with
 | zero => rfl
 | succ m => rw [wl, if_pos hp]
theorem y97 (q : List Int) (t : List y0) (h : TS t) (hq : q.length = t.length) : Zo (q, t) = some (wl t.length q t) := by
 have hl := h.len
 unfold Zo QH
 simp only [y2O q t h, Option.bind_some]
 refine ZD (step := WF _) (fun x : Int × List Int × List y0 => x.2.2.length) (fun x => TS x.2.2 ∧ x.2.1.length = x.2.2.length ∧ x.1 = yO x.2.2 0) (fun x => some (wl x.2.2.length x.2.1 x.2.2)) ?_ (yO t 0, q, t) ⟨h, hq, rfl⟩ (by simp only; omega)
 rintro again ⟨i, q, t⟩ ⟨h, hq, hi⟩ hag
 simp only at h hq hi ⊢
 subst hi
 have hl := h.len
 unfold WF
 by_cases hp : yO t 0 < 0
 ·rw [decide_eq_false (show ¬ yO t 0 ≥ 0 by omega), y96 _ hp]
  rfl
 ·obtain ⟨h1, h2, h3⟩ := y7H hp
  have hw : Go.IntKind.wrap .i64 (yO t 0 + 1) = yO t 0 + 1 := w64 (by omega) (by omega)
  have hw2 : Go.IntKind.wrap .i64 (yO t 0 + 2) = yO t 0 + 2 := w64 (by omega) (by omega)
  have hT := yaT h hp
  have hL := yc8 h hq hp
  have eq1 : ([] ++ List.drop (Int.toNat 0) (List.take (Int.toNat (yO t 0 + 1)) q)) ++ List.drop (Int.toNat (yO t 0 + 2)) (List.take (Int.toNat (q.length : Int)) q) = zi q (yO t 0).toNat 2 [q.getD (yO t 0).toNat 0] := by
   rw [ydk 0 q _ (by omega), show (yO t 0 + 1).toNat = (yO t 0).toNat + 1 by omega, show (yO t 0 + 2).toNat = (yO t 0).toNat + 2 by omega]
   simp
  have eq2 : ∀ n : y0, (([] ++ List.drop (Int.toNat 0) (List.take (Int.toNat (yO t 0)) t)) ++ [n]) ++ List.drop (Int.toNat (yO t 0 + 2)) (List.take (Int.toNat (t.length : Int)) t) = zi t (yO t 0).toNat 2 [n] := fun n => by
   rw [show (yO t 0 + 2).toNat = (yO t 0).toNat + 2 by omega]
   simp [zi]
  simp only [hw, hw2, Vf h h1 (show yO t 0 < (t.length : Int) by omega), Vf h (show 0 ≤ yO t 0 + 1 by omega) (show yO t 0 + 1 < (t.length : Int) by omega), JR (yE (ye t (yO t 0)) ++ yE (ye t (yO t 0 + 1))) (by rw [List.length_append]; omega), Option.bind_some, eq1, eq2, y2O _ _ hT]
  rw [decide_eq_true (show yO t 0 ≥ 0 from h1), cond_true]
  iterate 22 rw [if_pos (by first | omega | (simp only [List.length_append, List.length_drop, List.length_take, List.length_nil, List.length_cons]; omega))]
  rw [y5X h hq hp, ← hL.1]
  exact hag (yO (zi t (yO t 0).toNat 2 [yU (yE (ye t (yO t 0)) ++ yE (ye t (yO t 0 + 1)))]) 0, zi q (yO t 0).toNat 2 [q.getD (yO t 0).toNat 0], zi t (yO t 0).toNat 2 [yU (yE (ye t (yO t 0)) ++ yE (ye t (yO t 0 + 1)))]) ⟨hT, hL.2.trans hL.1.symm, rfl⟩ (by simp only; omega)
theorem y5e (q : List Int) (t : List y0) (h : TS t) (hq : q.length = t.length) : ZB (q, t) = some (wl t.length q t) := by
 have hl := h.len
 unfold ZB y02
 have key : ∀ (i : Int) (q : List Int) (t : List y0) (k1 k2 : Int × List Int × List y0 → Option (List Int × List y0)), TS t → q.length = t.length → 0 ≤ i → i ≤ (t.length : Int) → yO t 0 = yO (t.drop i.toNat) i →
   (∀ i' q' t', TS t' → q'.length = t'.length → 0 ≤ i' → i' ≤ (t'.length : Int) → yO t' 0 = yO (t'.drop i'.toNat) i' → t'.length * 1000 + (t'.length - i'.toNat) < t.length * 1000 + (t.length - i.toNat) → k1 (i', q', t') = some (wl t'.length q' t') ∧ k2 (i', q', t') = some (wl t'.length q' t')) →
   (bif (decide ((Go.IntKind.wrap .i64 (i + (1 : Int))) < ((List.length t : Nat) : Int))) then if (0 : Int) ≤ i then if i < ((List.length t : Nat) : Int) then Option.bind (yP (ye t i)) fun r5 => if (0 : Int) ≤ (Go.IntKind.wrap .i64 (i + (1 : Int))) then if (Go.IntKind.wrap .i64 (i + (1 : Int))) < ((List.length t : Nat) : Int) then Option.bind (yP (ye t (Go.IntKind.wrap .i64 (i + (1 : Int))))) fun r6 => if (List.length r5 + List.length r6) * 40 < 140737488355328 then bif (decide (((List.length (r5 ++ r6) : Nat) : Int) ≤ (6 : Int))) then if (0 : Int) ≤ i then if i < ((List.length q : Nat) : Int) then Option.bind (zu (r5 ++ r6)) fun r7 => Option.bind (Y9 (q, t, i, (2 : Int), ([(zw q i)] : List yd), ([r7] : List y0))) fun r8 => k1 ((Go.IntKind.wrap .i64 ((-1 : Int) + (1 : Int))), r8.1, r8.2) else none else none else k2 ((Go.IntKind.wrap .i64 (i + (1 : Int))), q, t) else none else none else none else none else none else some (q, t)) = some (wl t.length q t) := by
  intro i q t k1 k2 h hq i0 i1 hpi hk
  have hl := h.len
  have hw : Go.IntKind.wrap .i64 (i + 1) = i + 1 := w64 (by omega) (by omega)
  have hw0 : Go.IntKind.wrap .i64 (-1 + 1) = 0 := rfl
  simp only [hw, hw0]
  by_cases hi : i + 1 < (t.length : Int)
  ·have g1 := (nk h i0 (show i < (t.length : Int) by omega)).keys
   have g2 := (nk h (show 0 ≤ i + 1 by omega) hi).keys
   rw [yc7 t i i0 hi] at hpi
   simp only [y4t h i0 (show i < (t.length : Int) by omega), y4t h (show 0 ≤ i + 1 by omega) hi, Option.bind_some]
   rw [decide_eq_true hi, cond_true, if_pos i0, if_pos (by omega), if_pos (by omega), if_pos hi, if_pos (by omega)]
   by_cases h6 : (yE (ye t i)).length + (yE (ye t (i + 1))).length ≤ 6
   ·rw [if_pos h6] at hpi
    subst hpi
    have hp : ¬ yO t 0 < 0 := by omega
    have hT := yaT h hp
    have hL := yc8 h hq hp
    rw [decide_eq_true (show ((List.length (yE (ye t (yO t 0)) ++ yE (ye t (yO t 0 + 1))) : Nat) : Int) ≤ 6 by rw [List.length_append]; omega), cond_true, if_pos i0, if_pos (by omega), ku _ (by rw [List.length_append]; omega)]
    simp only [Option.bind_some]
    rw [KU q t _ 2 _ _ i0 (by decide) (by omega) (by omega) (by omega) (by omega) (by simp) (by simp)]
    simp only [Option.bind_some]
    rw [y5X h hq hp, ← hL.1]
    exact (hk 0 (zi q (yO t 0).toNat 2 [q.getD (yO t 0).toNat 0]) (zi t (yO t 0).toNat 2 [yU (yE (ye t (yO t 0)) ++ yE (ye t (yO t 0 + 1)))]) hT (hL.2.trans hL.1.symm) (Int.le_refl _) (by omega) rfl (by omega)).1
   ·rw [if_neg h6] at hpi
    rw [decide_eq_false (show ¬ ((List.length (yE (ye t i) ++ yE (ye t (i + 1))) : Nat) : Int) ≤ 6 by rw [List.length_append]; omega), cond_false]
    exact (hk (i + 1) q t h hq (by omega) (by omega) hpi (by omega)).2
  ·rw [y4s (t.drop i.toNat) i (by rw [List.length_drop]; omega)] at hpi
   rw [decide_eq_false hi, y96 _ (by omega)]
   rfl
 refine ZD (step := V9 _ _) (fun x : (Int × List Int × List y0) ⊕ (Int × List Int × List y0) => (Sum.elim id id x).2.2.length * 1000 + ((Sum.elim id id x).2.2.length - (Sum.elim id id x).1.toNat)) (fun x => TS (Sum.elim id id x).2.2 ∧ (Sum.elim id id x).2.1.length = (Sum.elim id id x).2.2.length ∧ 0 ≤ (Sum.elim id id x).1 ∧ (Sum.elim id id x).1 ≤ ((Sum.elim id id x).2.2.length : Int) ∧ yO (Sum.elim id id x).2.2 0 = yO ((Sum.elim id id x).2.2.drop (Sum.elim id id x).1.toNat) (Sum.elim id id x).1)
  (fun x => some (wl (Sum.elim id id x).2.2.length (Sum.elim id id x).2.1 (Sum.elim id id x).2.2)) ?_ (Sum.inl (0, q, t)) ⟨h, hq, Int.le_refl _, by simp, rfl⟩ (by simp; omega)
 rintro again (⟨i, q, t⟩ | ⟨i, q, t⟩) ⟨h, hq, i0, i1, hpi⟩ hag
 ·exact key i q t (fun x => again (Sum.inr x)) (fun x => again (Sum.inl x)) h hq i0 i1 hpi fun i' q' t' a1 a2 a3 a4 a5 a6 => ⟨hag (Sum.inr (i', q', t')) ⟨a1, a2, a3, a4, a5⟩ a6, hag (Sum.inl (i', q', t')) ⟨a1, a2, a3, a4, a5⟩ a6⟩
 ·exact key i q t (fun x => again (Sum.inr x)) (fun x => again (Sum.inr x)) h hq i0 i1 hpi fun i' q' t' a1 a2 a3 a4 a5 a6 => ⟨hag (Sum.inr (i', q', t')) ⟨a1, a2, a3, a4, a5⟩ a6, hag (Sum.inr (i', q', t')) ⟨a1, a2, a3, a4, a5⟩ a6⟩
end Go.Proofs.YtgediecndaheiaaGreat.Pl
namespace Go.Proofs.YtgediecndaheiaaGreat.Pl
open Go.Proofs.YtgediecndaheiaaGreat.R Go.Proofs.YtgediecndaheiaaGreat.XS
theorem yc9 : ∀ (n : List yb) (s : Int), 0 ≤ s → s + 60 * n.length ≤ 1000 → (∀ a ∈ n, List.length a ≤ 60) → n.foldl y0P s = s + km VS n
 | [], s, _, _, _ => by simp [km]
 | a :: n, s, h0, hb, ha => by
  have h1 := ha a (by simp)
  rw [List.length_cons] at hb
  have hw : y0P s a = s + (List.length a : Int) := w64 (by omega) (by omega)
  have e : VS a = (List.length a : Int) := rfl
  rw [List.foldl_cons, hw, yc9 n _ (by omega) (by omega) fun b hm => ha b (by simp [hm]), Yi, e]
  omega
theorem Wg {n : List yb} (h : YF n = true) : n.length ≤ 3 ∧ km VS n ≤ 8 ∧ ∀ s ∈ n, ∀ k ∈ (show List y7 from s), YE k = true := by
 obtain ⟨h1, h2⟩ := y1M h
 have h3 := yc9 n 0 (Int.le_refl _) (by omega) fun a ha => (y3x (h2 a ha)).1
 unfold YF at h
 simp only [Bool.and_eq_true, decide_eq_true_eq] at h
 exact ⟨h1, by omega, fun s hs => (y3x (h2 s hs)).2⟩
theorem y1S {n : List yb} (h : YF n = true) : NS n := ⟨by have := (Wg h).1; omega, by have := (Wg h).2.1; omega⟩
theorem y1T {q : List Int} {t : List y0} (h : zv q t = true) : TS t := by
 obtain ⟨h1, h2, h3, h4⟩ := JQ h
 exact ⟨by omega, fun n hn => y1S (h4 n hn)⟩
theorem yaU {q : List Int} {t : List y0} (h : zv q t = true) : q.getD 0 0 = 0 := by
 unfold zv at h
 simp only [Bool.and_eq_true, beq_iff_eq] at h
 exact h.2.2.1
theorem y2P (q : List Int) (sp : Int) (h : q.getD 0 0 ≤ sp) : ∀ n, 0 ≤ W2 q sp (n + 1)
 | 0 => by
  rw [W2, if_pos h]
  simp
 | n + 1 => by
  rw [W2]
  split
  ·omega
  ·exact y2P q sp h n
theorem yh0 {k : y7} (h : YE k = true) : 0 ≤ Ja k.1 k.2.1 := by
 unfold YE at h
 simp only [Bool.and_eq_true, zp] at h
 obtain ⟨h1, h2, _⟩ := h
 unfold Ja
 rw [w64 (n := (64 : Int) * k.1) (by omega) (by omega), w64 (by omega) (by omega)]
 omega
theorem yh1 {n : List yb} {k : y7} (hn : YF n = true) (hk : YE k = true) (h : (zt n k).2 = false) : 8 < (Yq n k).length := by
 unfold zt at h
 split at h
 ·cases h
 ·split at h
  ·assumption
  ·rename_i h8
   have hok : YF (yU (Yq n k)) = true := y5V (Ve (We k (qq n))) (fun x hx => by
    rcases y5T (y93 hx) with rfl | hx
    ·exact hk
    ·obtain ⟨c, hc, hx⟩ := y1N hx
     exact (Wg hn).2.2 c hc x hx) (by omega)
   rw [if_pos hok] at h
   cases h
theorem y2p {n : List yb} (k : y7) (h : NS n) (h2 : n.length ≤ 900 ∧ km VS n ≤ 900) : NS (zt n k).1 := by
 have h1 := y2m n k
 have h3 := y1R n k
 have h4 := KD n
 unfold zt
 split
 ·exact ⟨by simp only; omega, by simp only; omega⟩
 ·split
  ·exact h
  ·split
   ·exact y0u (by omega)
   ·exact h
def z0 (q : List Int) (k : y7) : Nat := (W2 q (Ja k.1 k.2.1) q.length).toNat
def kz (l : List y7) : Nat := (l.length + 1) / 2
def yy (q : List Int) (t : List y0) (k : y7) : List Int × List y0 :=
 if (zt (t.getD (z0 q k) yi) k).2 = false then
  (zi q (z0 q k) 1 [q.getD (z0 q k) 0, Qj ((Yq (t.getD (z0 q k) yi) k).getD (kz (Yq (t.getD (z0 q k) yi) k)) yL)],
   zi t (z0 q k) 1 [yU ((Yq (t.getD (z0 q k) yi) k).take (kz (Yq (t.getD (z0 q k) yi) k))), yU ((Yq (t.getD (z0 q k) yi) k).drop (kz (Yq (t.getD (z0 q k) yi) k)))])
 else if 0 < z0 q k ∧ (yE (zt (t.getD (z0 q k) yi) k).1).length = 0 then (zi q (z0 q k) 1 [], zi t (z0 q k) 1 [])
 else (q, t.set (z0 q k) (zt (t.getD (z0 q k) yi) k).1)
def yx (q : List Int) (t : List y0) (k : y7) : List Int × List y0 × Bool :=
 if (zv q t && YE k) = true then
  (if zv (wl (yy q t k).2.length (yy q t k).1 (yy q t k).2).1 (wl (yy q t k).2.length (yy q t k).1 (yy q t k).2).2 = true then
   ((wl (yy q t k).2.length (yy q t k).1 (yy q t k).2).1, (wl (yy q t k).2.length (yy q t k).1 (yy q t k).2).2, true) else (q, t, false))
 else (q, t, false)
theorem y7I : ∀ (m : Nat) (q : List Int) (t : List y0), TS t → TS (wl m q t).2
 | 0, _, _, h => h
 | m + 1, q, t, h => by
  rw [wl]
  split
  ·exact h
  ·rename_i hp
   exact y7I m _ _ (yaT h hp)
section
variable {q : List Int} {t : List y0} {k : y7} (h : zv q t = true) (hk : YE k = true)
include h hk
theorem y0v : (W2 q (Ja k.1 k.2.1) q.length) = (z0 q k : Int) ∧ z0 q k < t.length ∧ z0 q k < q.length := by
 obtain ⟨h1, h2, h3, h4⟩ := JQ h
 have h5 := y2P q (Ja k.1 k.2.1) (by rw [yaU h]; exact yh0 hk) (q.length - 1)
 rw [show q.length - 1 + 1 = q.length by omega] at h5
 have h6 := y5W q (Ja k.1 k.2.1) q.length
 unfold z0
 omega
theorem y0d : YF (t.getD (z0 q k) yi) = true := by
 have h1 := (y0v h hk).2.1
 rw [zd _ _ _ h1]
 exact (JQ h).2.2.2 _ (List.getElem_mem _)
theorem yaV (hm : (zt (t.getD (z0 q k) yi) k).2 = false) : kz (Yq (t.getD (z0 q k) yi) k) < (Yq (t.getD (z0 q k) yi) k).length ∧ (Yq (t.getD (z0 q k) yi) k).length ≤ 9 := by
 have h1 := yh1 (y0d h hk) hk hm
 have h2 := y1R (t.getD (z0 q k) yi) k
 have h3 := KD (t.getD (z0 q k) yi)
 have h4 := (Wg (y0d h hk)).2.1
 unfold kz
 omega
theorem y5Y : TS (yy q t k).2 ∧ (yy q t k).1.length = (yy q t k).2.length := by
 obtain ⟨h1, h2, h3, h4⟩ := JQ h
 obtain ⟨g0, g1, g2⟩ := y0v h hk
 have hT := y1T h
 have hn := Wg (y0d h hk)
 unfold yy
 split
 ·rename_i hm
  have hh := yaV h hk hm
  refine ⟨hT.splice (by rw [wg _ _ _ _ (by omega)]; simp only [List.length_cons, List.length_nil]; omega) fun n hn => ?_, by rw [wg _ _ _ _ (by omega), wg _ _ _ _ (by omega)]; simp only [List.length_cons, List.length_nil]; omega⟩
  simp only [List.mem_cons, List.mem_nil_iff, or_false] at hn
  rcases hn with rfl | rfl
  ·exact y0u (by rw [List.length_take]; omega)
  ·exact y0u (by rw [List.length_drop]; omega)
 ·split
  ·refine ⟨hT.splice (by rw [wg _ _ _ _ (by omega)]; simp only [List.length_nil]; omega) (fun n hn => by cases hn), by rw [wg _ _ _ _ (by omega), wg _ _ _ _ (by omega)]; simp only [List.length_nil]; omega⟩
  ·refine ⟨⟨by simp only [List.length_set]; omega, fun n hn2 => (List.mem_or_eq_of_mem_set hn2).elim (hT.node n) fun e => e ▸ y2p k (y1S (y0d h hk)) (by omega)⟩, by simp only [List.length_set]; omega⟩
end
theorem JS (q : List Int) (t : List y0) (a b c d e : Int) (hT : TOk t) (hQ : ∀ n ∈ t, y35 n) (hq : q.length ≤ 1048576) : Y3 (q, t, a, b, c, d, e) = some (yx q t (a, b, c, d, e)) := by
 unfold Y3 yx
 simp only [VP q t hq hT.len hQ, VM q t hT, y1J, Option.bind_some]
 cases h : zv q t with
 | false => rfl
 | true =>
  cases hk : YE (a, b, c, d, e) with
  | false => rfl
  | true =>
   obtain ⟨h1, h2, h3, h4⟩ := JQ h
   obtain ⟨g0, g1, g2⟩ := y0v h hk
   have hNS := y1S (y0d h hk)
   have hnf := Wg (y0d h hk)
   have hP := y5Y h hk
   have hJ := y7I (yy q t (a, b, c, d, e)).2.length (yy q t (a, b, c, d, e)).1 (yy q t (a, b, c, d, e)).2 hP.1
   have ern : ye t (z0 q (a, b, c, d, e) : Int) = t.getD (z0 q (a, b, c, d, e)) yi := by
    show t.getD ((z0 q (a, b, c, d, e) : Int)).toNat yi = _
    rw [Int.toNat_natCast]
   have erq : zw q (z0 q (a, b, c, d, e) : Int) = q.getD (z0 q (a, b, c, d, e)) 0 := by
    show q.getD ((z0 q (a, b, c, d, e) : Int)).toNat 0 = _
    rw [Int.toNat_natCast]
   have hfin : ∀ p : List Int × List y0, p = yy q t (a, b, c, d, e) → (Option.bind (Zo (p.1, p.2)) fun r15 => Option.bind (Yv (r15.1, r15.2)) fun r16 => bif (!r16) then some (q, t, false) else some (r15.1, r15.2, true)) = some (if zv (wl (yy q t (a, b, c, d, e)).2.length (yy q t (a, b, c, d, e)).1 (yy q t (a, b, c, d, e)).2).1 (wl (yy q t (a, b, c, d, e)).2.length (yy q t (a, b, c, d, e)).1 (yy q t (a, b, c, d, e)).2).2 = true then ((wl (yy q t (a, b, c, d, e)).2.length (yy q t (a, b, c, d, e)).1 (yy q t (a, b, c, d, e)).2).1, (wl (yy q t (a, b, c, d, e)).2.length (yy q t (a, b, c, d, e)).1 (yy q t (a, b, c, d, e)).2).2, true) else (q, t, false)) := by
    rintro p rfl
    simp only [y97 _ _ hP.1 hP.2, Option.bind_some, VM _ _ hJ.ok]
    cases zv (wl (yy q t (a, b, c, d, e)).2.length (yy q t (a, b, c, d, e)).1 (yy q t (a, b, c, d, e)).2).1 (wl (yy q t (a, b, c, d, e)).2.length (yy q t (a, b, c, d, e)).1 (yy q t (a, b, c, d, e)).2).2 <;> rfl
   simp only [Bool.not_true, cond_false, Option.bind_some, y0a q t a b hq, show W2 q (Ja a b) q.length = (z0 q (a, b, c, d, e) : Int) from g0, ern, erq, Bool.and_self, if_true]
   rw [if_pos (by omega), if_pos (by omega), y4q _ a b c d e hNS]
   simp only [Option.bind_some]
   rw [if_pos (by omega), if_pos (by omega), qP q t _ _ _ (by omega) (by omega) (by omega) (by omega) (by omega) (by simp) (by simp)]
   simp only [Option.bind_some, Int.toNat_natCast]
   cases hm : (zt (t.getD (z0 q (a, b, c, d, e)) yi) (a, b, c, d, e)).2 with
   | false =>
    have hh := yaV h hk hm
    have hkn := (hNS.keys)
    have hsl := Wc (yE (t.getD (z0 q (a, b, c, d, e)) yi)) (a, b, c, d, e)
    have e1 : Y5 (Yr (yE (t.getD (z0 q (a, b, c, d, e)) yi)) (a, b, c, d, e)) = some (Yq (t.getD (z0 q (a, b, c, d, e)) yi) (a, b, c, d, e)) := y05 _ (by omega)
    have hput := yy.eq_1 q t (a, b, c, d, e)
    rw [if_pos hm] at hput
    generalize hW : Yq (t.getD (z0 q (a, b, c, d, e)) yi) (a, b, c, d, e) = W at hh e1 hput
    have hwr : Go.IntKind.wrap .i64 (Int.tdiv (Go.IntKind.wrap .i64 (((List.length W : Nat) : Int) + (1 : Int))) (2 : Int)) = (kz W : Int) := by
     rw [w64 (n := ((List.length W : Nat) : Int) + 1) (by omega) (by omega), Int.tdiv_eq_ediv_of_nonneg (by omega)]
     unfold kz
     rw [w64 (by omega) (by omega)]
     omega
    simp only [Bool.not_false, cond_true, Zg _ (Nat.le_trans hNS.len (by decide)) (Int.le_trans hNS.sum (by decide)), Ko _ a b c d e (show (yE (t.getD (z0 q (a, b, c, d, e)) yi)).length ≤ 1073741824 by omega), e1, Option.bind_some, hwr, Int.toNat_natCast]
    rw [if_pos (by omega), if_pos (by omega), if_pos (by omega), if_pos (by omega), if_pos (by omega), if_pos (by omega)]
    have e2 : JX ((y6 W (kz W : Int)).1, (y6 W (kz W : Int)).2.1, (y6 W (kz W : Int)).2.2.1, (y6 W (kz W : Int)).2.2.2.1, (y6 W (kz W : Int)).2.2.2.2) = some (Qj (W.getD (kz W) yL)) := by
     have e3 : y6 W (kz W : Int) = W.getD (kz W) yL := by
      show W.getD ((kz W : Int)).toNat yL = _
      rw [Int.toNat_natCast]
     rw [e3]
     rfl
    rw [e2]
    simp only [Option.bind_some]
    rw [if_pos (by omega), if_pos (by omega), if_pos (by omega), JR _ (by simp only [List.length_drop, List.length_take]; omega)]
    simp only [Option.bind_some]
    rw [if_pos (by omega), if_pos (by omega), if_pos (by omega), JR _ (by simp only [List.length_drop, List.length_take]; omega)]
    simp only [Option.bind_some]
    rw [qP q t _ _ _ (by omega) (by omega) (by omega) (by omega) (by omega) (by simp) (by simp)]
    simp only [Option.bind_some, Int.toNat_natCast, List.take_length]
    exact hfin _ hput.symm
   | true =>
    have hP2 := y2p (a, b, c, d, e) hNS (by omega)
    have hnm : ¬ (zt (t.getD (z0 q (a, b, c, d, e)) yi) (a, b, c, d, e)).2 = false := by rw [hm]; simp
    simp only [Bool.not_true, cond_false, Zg _ (Nat.le_trans hP2.len (by decide)) (Int.le_trans hP2.sum (by decide)), Option.bind_some]
    have hput := yy.eq_1 q t (a, b, c, d, e)
    rw [if_neg hnm] at hput
    have h3 : (bif decide ((z0 q (a, b, c, d, e) : Int) > 0) then some (((List.length (yE (zt (t.getD (z0 q (a, b, c, d, e)) yi) (a, b, c, d, e)).1) : Nat) : Int) == 0) else some false) = some (decide (0 < z0 q (a, b, c, d, e) ∧ (yE (zt (t.getD (z0 q (a, b, c, d, e)) yi) (a, b, c, d, e)).1).length = 0)) := by
     by_cases i0 : 0 < z0 q (a, b, c, d, e)
     ·rw [decide_eq_true (show (z0 q (a, b, c, d, e) : Int) > 0 by omega), cond_true]
      congr 1
      by_cases i1 : (yE (zt (t.getD (z0 q (a, b, c, d, e)) yi) (a, b, c, d, e)).1).length = 0
      ·rw [decide_eq_true ⟨i0, i1⟩]
       exact beq_iff_eq.2 (by omega)
      ·rw [decide_eq_false (fun hh => i1 hh.2)]
       exact beq_eq_false_iff_ne.2 (by omega)
     ·rw [decide_eq_false (show ¬ (z0 q (a, b, c, d, e) : Int) > 0 by omega), decide_eq_false (fun hh => i0 hh.1)]
      rfl
    rw [h3]
    simp only [Option.bind_some]
    by_cases hz : 0 < z0 q (a, b, c, d, e) ∧ (yE (zt (t.getD (z0 q (a, b, c, d, e)) yi) (a, b, c, d, e)).1).length = 0
    ·rw [if_pos hz] at hput
     rw [decide_eq_true hz, cond_true, qP q t _ _ _ (by omega) (by omega) (by omega) (by omega) (by omega) (by simp) (by simp)]
     simp only [Option.bind_some, Int.toNat_natCast]
     exact hfin _ hput.symm
    ·rw [if_neg hz] at hput
     rw [decide_eq_false hz, cond_false]
     rw [y2n q _ _ (by omega), y2n t _ _ (by omega)]
     refine hfin (q.set (z0 q (a, b, c, d, e)) (q.getD (z0 q (a, b, c, d, e)) 0), t.set (z0 q (a, b, c, d, e)) (zt (t.getD (z0 q (a, b, c, d, e)) yi) (a, b, c, d, e)).1) ?_
     rw [hput, zd _ _ _ (by omega), List.set_getElem_self]
theorem y4u (q : List Int) (t : List y0) (a b c d e : Int) (hT : TOk t) (hQ : ∀ n ∈ t, y35 n) (hq : q.length ≤ 1048576) : wJ (q, t, a, b, c, d, e) = some (yx q t (a, b, c, d, e)) := by
 unfold wJ yx
 simp only [Qb q t hq hT.len hQ, VN q t hT, y1K, Option.bind_some]
 cases h : zv q t with
 | false => rfl
 | true =>
  cases hk : YE (a, b, c, d, e) with
  | false => rfl
  | true =>
   obtain ⟨h1, h2, h3, h4⟩ := JQ h
   obtain ⟨g0, g1, g2⟩ := y0v h hk
   have hNS := y1S (y0d h hk)
   have hnf := Wg (y0d h hk)
   have hP := y5Y h hk
   have hJ := y7I (yy q t (a, b, c, d, e)).2.length (yy q t (a, b, c, d, e)).1 (yy q t (a, b, c, d, e)).2 hP.1
   have ern : ye t (z0 q (a, b, c, d, e) : Int) = t.getD (z0 q (a, b, c, d, e)) yi := by
    show t.getD ((z0 q (a, b, c, d, e) : Int)).toNat yi = _
    rw [Int.toNat_natCast]
   have erq : zw q (z0 q (a, b, c, d, e) : Int) = q.getD (z0 q (a, b, c, d, e)) 0 := by
    show q.getD ((z0 q (a, b, c, d, e) : Int)).toNat 0 = _
    rw [Int.toNat_natCast]
   have hfin : ∀ p : List Int × List y0, p = yy q t (a, b, c, d, e) → (Option.bind (ZB (p.1, p.2)) fun r15 => Option.bind (Yx (r15.1, r15.2)) fun r16 => bif (!r16) then some (q, t, false) else some (r15.1, r15.2, true)) = some (if zv (wl (yy q t (a, b, c, d, e)).2.length (yy q t (a, b, c, d, e)).1 (yy q t (a, b, c, d, e)).2).1 (wl (yy q t (a, b, c, d, e)).2.length (yy q t (a, b, c, d, e)).1 (yy q t (a, b, c, d, e)).2).2 = true then ((wl (yy q t (a, b, c, d, e)).2.length (yy q t (a, b, c, d, e)).1 (yy q t (a, b, c, d, e)).2).1, (wl (yy q t (a, b, c, d, e)).2.length (yy q t (a, b, c, d, e)).1 (yy q t (a, b, c, d, e)).2).2, true) else (q, t, false)) := by
    rintro p rfl
    simp only [y5e _ _ hP.1 hP.2, Option.bind_some, VN _ _ hJ.ok]
    cases zv (wl (yy q t (a, b, c, d, e)).2.length (yy q t (a, b, c, d, e)).1 (yy q t (a, b, c, d, e)).2).1 (wl (yy q t (a, b, c, d, e)).2.length (yy q t (a, b, c, d, e)).1 (yy q t (a, b, c, d, e)).2).2 <;> rfl
   simp only [Bool.not_true, cond_false, Option.bind_some, y0b q t a b hq, show W2 q (Ja a b) q.length = (z0 q (a, b, c, d, e) : Int) from g0, ern, erq, Bool.and_self, if_true]
   rw [if_pos (by omega), if_pos (by omega), y4r _ a b c d e hNS]
   simp only [Option.bind_some, Int.toNat_natCast]
   cases hm : (zt (t.getD (z0 q (a, b, c, d, e)) yi) (a, b, c, d, e)).2 with
   | false =>
    have hh := yaV h hk hm
    have e1 : zT (t.getD (z0 q (a, b, c, d, e)) yi, a, b, c, d, e) = some (Yq (t.getD (z0 q (a, b, c, d, e)) yi) (a, b, c, d, e)) := Qd _ a b c d e hNS
    have hput := yy.eq_1 q t (a, b, c, d, e)
    rw [if_pos hm] at hput
    generalize hW : Yq (t.getD (z0 q (a, b, c, d, e)) yi) (a, b, c, d, e) = W at hh e1 hput
    have hwr : Go.IntKind.wrap .i64 (Int.tdiv (Go.IntKind.wrap .i64 (((List.length W : Nat) : Int) + (1 : Int))) (2 : Int)) = (kz W : Int) := by
     rw [w64 (n := ((List.length W : Nat) : Int) + 1) (by omega) (by omega), Int.tdiv_eq_ediv_of_nonneg (by omega)]
     unfold kz
     rw [w64 (by omega) (by omega)]
     omega
    simp only [Bool.not_false, cond_true, e1, Option.bind_some, hwr, Int.toNat_natCast]
    rw [if_pos (by omega), if_pos (by omega), if_pos (by omega), if_pos (by omega), if_pos (by omega), if_pos (by omega)]
    have e2 : Zv ((y6 W (kz W : Int)).1, (y6 W (kz W : Int)).2.1) = some (Qj (W.getD (kz W) yL)) := by
     have e3 : y6 W (kz W : Int) = W.getD (kz W) yL := by
      show W.getD ((kz W : Int)).toNat yL = _
      rw [Int.toNat_natCast]
     rw [e3]
     rfl
    rw [e2]
    simp only [Option.bind_some]
    rw [if_pos (by omega), if_pos (by omega), if_pos (by omega), ku _ (by simp only [List.length_drop, List.length_take]; omega)]
    simp only [Option.bind_some]
    rw [if_pos (by omega), if_pos (by omega), if_pos (by omega), ku _ (by simp only [List.length_drop, List.length_take]; omega)]
    simp only [Option.bind_some]
    rw [KU q t _ 1 _ _ (by omega) (by decide) (by omega) (by omega) (by omega) (by omega) (by simp) (by simp)]
    simp only [Option.bind_some, Int.toNat_natCast, List.take_length]
    exact hfin _ hput.symm
   | true =>
    have hP2 := y2p (a, b, c, d, e) hNS (by omega)
    have hnm : ¬ (zt (t.getD (z0 q (a, b, c, d, e)) yi) (a, b, c, d, e)).2 = false := by rw [hm]; simp
    simp only [Bool.not_true, cond_false, jX _ (Nat.le_trans hP2.len (by decide)) (Int.le_trans hP2.sum (by decide)), Option.bind_some]
    have hput := yy.eq_1 q t (a, b, c, d, e)
    rw [if_neg hnm] at hput
    have h3 : (bif decide ((z0 q (a, b, c, d, e) : Int) > 0) then some (((List.length (yE (zt (t.getD (z0 q (a, b, c, d, e)) yi) (a, b, c, d, e)).1) : Nat) : Int) == 0) else some false) = some (decide (0 < z0 q (a, b, c, d, e) ∧ (yE (zt (t.getD (z0 q (a, b, c, d, e)) yi) (a, b, c, d, e)).1).length = 0)) := by
     by_cases i0 : 0 < z0 q (a, b, c, d, e)
     ·rw [decide_eq_true (show (z0 q (a, b, c, d, e) : Int) > 0 by omega), cond_true]
      congr 1
      by_cases i1 : (yE (zt (t.getD (z0 q (a, b, c, d, e)) yi) (a, b, c, d, e)).1).length = 0
      ·rw [decide_eq_true ⟨i0, i1⟩]
       exact beq_iff_eq.2 (by omega)
      ·rw [decide_eq_false (fun hh => i1 hh.2)]
       exact beq_eq_false_iff_ne.2 (by omega)
     ·rw [decide_eq_false (show ¬ (z0 q (a, b, c, d, e) : Int) > 0 by omega), decide_eq_false (fun hh => i0 hh.1)]
      rfl
    rw [h3]
    simp only [Option.bind_some]
    by_cases hz : 0 < z0 q (a, b, c, d, e) ∧ (yE (zt (t.getD (z0 q (a, b, c, d, e)) yi) (a, b, c, d, e)).1).length = 0
    ·rw [if_pos hz] at hput
     rw [decide_eq_true hz, cond_true, KU q t _ 1 _ _ (by omega) (by decide) (by omega) (by omega) (by omega) (by omega) (by simp) (by simp)]
     simp only [Option.bind_some, Int.toNat_natCast]
     exact hfin _ hput.symm
    ·rw [if_neg hz] at hput
     rw [decide_eq_false hz, cond_false, if_pos (by omega), if_pos (by omega)]
     exact hfin _ hput.symm
end Go.Proofs.YtgediecndaheiaaGreat.Pl
namespace Go.Proofs.YtgediecndaheiaaGreat.Pl
open Go.Proofs.YtgediecndaheiaaGreat.R Go.Proofs.YtgediecndaheiaaGreat.XS
theorem y1U (a : y7) : wY a a = false := by
 cases h : wY a a with
 | false => rfl
 | true =>
  rw [Vd] at h
  omega
theorem y7J : ∀ {a b : List y7}, srt a → srt b → (∀ x, x ∈ a ↔ x ∈ b) → a = b
 | [], [], _, _, _ => rfl
 | [], y :: b, _, _, h => absurd ((h y).2 (by simp)) (by simp)
 | x :: a, [], _, _, h => absurd ((h x).1 (by simp)) (by simp)
 | x :: a, y :: b, ha, hb, h => by
  obtain ⟨ha1, ha2⟩ := List.pairwise_cons.1 ha
  obtain ⟨hb1, hb2⟩ := List.pairwise_cons.1 hb
  have hxy : x = y := by
   rcases List.mem_cons.1 ((h x).1 (by simp)) with e | h1
   ·exact e
   ·rcases List.mem_cons.1 ((h y).2 (by simp)) with e | h2
    ·exact e.symm
    ·have := y19 (hb1 x h1) (ha1 y h2)
     rw [y1U] at this
     cases this
  subst hxy
  rw [y7J ha2 hb2 fun z => ?_]
  constructor
  ·intro hz
   rcases List.mem_cons.1 ((h z).1 (by simp [hz])) with rfl | h1
   ·have := ha1 z hz
    rw [y1U] at this
    cases this
   ·exact h1
  ·intro hz
   rcases List.mem_cons.1 ((h z).2 (by simp [hz])) with rfl | h1
   ·have := hb1 z hz
    rw [y1U] at this
    cases this
   ·exact h1
theorem y0e {c k : y7} (h : wY c k = true) : jW c k = false := by
 cases hs : jW c k with
 | false => rfl
 | true =>
  rw [Vd] at h
  rw [ZG] at hs
  omega
theorem qQ {k x : y7} : ∀ {l : List y7}, x ∈ Yr l k ↔ x = k ∨ (x ∈ l ∧ jW x k = false) := by
 intro l
 rw [K9]
 induction l with
 | nil => simp [y7Y]
 | cons c r ih =>
  rw [y7Y]
  split
  ·rename_i hl
   have := y0e hl
   simp only [List.mem_cons, ih]
   constructor
   ·rintro (rfl | rfl | ⟨h1, h2⟩)
    ·exact .inr ⟨.inl rfl, this⟩
    ·exact .inl rfl
    ·exact .inr ⟨.inr h1, h2⟩
   ·rintro (rfl | ⟨rfl | h1, h2⟩)
    ·exact .inr (.inl rfl)
    ·exact .inl rfl
    ·exact .inr (.inr ⟨h1, h2⟩)
  ·simp only [List.mem_cons, List.mem_filter, Bool.not_eq_true']
theorem y1V {a b : y7} : jW a b = jW b a := by
 cases h : jW b a with
 | true => rw [ZG] at h ⊢; exact ⟨h.1.symm, h.2.symm⟩
 | false =>
  cases h2 : jW a b with
  | false => rfl
  | true =>
   rw [ZG] at h2
   rw [ZG.2 ⟨h2.1.symm, h2.2.symm⟩] at h
   cases h
theorem ydl {a b c : y7} (h1 : jW a b = true) (h2 : jW b c = true) : jW a c = true := by
 rw [ZG] at *
 exact ⟨h1.1.trans h2.1, h1.2.trans h2.2⟩
theorem KE {x : y7} : ∀ {b a : List y7}, srt b → (x ∈ Z7 a b ↔ x ∈ b ∨ (x ∈ a ∧ ∀ y ∈ b, jW x y = false))
 | [], a, _ => by simp [Z7]
 | c :: b, a, h => by
  obtain ⟨h1, h2⟩ := List.pairwise_cons.1 h
  have := KE (x := x) (b := b) (a := Yr a c) h2
  rw [show Z7 a (c :: b) = Z7 (Yr a c) b from rfl, this, qQ]
  constructor
  ·rintro (h3 | ⟨rfl | ⟨h3, h4⟩, h5⟩)
   ·exact .inl (by simp [h3])
   ·exact .inl (by simp)
   ·exact .inr ⟨h3, fun y hy => by
     rcases List.mem_cons.1 hy with rfl | hy
     ·exact h4
     ·exact h5 y hy⟩
  ·rintro (h3 | ⟨h3, h4⟩)
   ·rcases List.mem_cons.1 h3 with rfl | h3
    ·exact .inr ⟨.inl rfl, fun y hy => y0e (h1 y hy)⟩
    ·exact .inl h3
   ·exact .inr ⟨.inr ⟨h3, h4 c (by simp)⟩, fun y hy => h4 y (by simp [hy])⟩
theorem yf6 {a b : List y7} (ha : srt a) (hb : srt b) (k : y7) : Z7 a (Yr b k) = Yr (Z7 a b) k := by
 refine y7J (qp _ _ ha) (We k (qp _ _ ha)) fun x => ?_
 rw [KE (We k hb), qQ, qQ, KE hb]
 constructor
 ·rintro ((rfl | ⟨h1, h2⟩) | ⟨h1, h2⟩)
  ·exact .inl rfl
  ·exact .inr ⟨.inl h1, h2⟩
  ·have hk := h2 k (qQ.2 (.inl rfl))
   refine .inr ⟨.inr ⟨h1, fun y hy => ?_⟩, hk⟩
   cases hy2 : jW y k with
   | false => exact h2 y (qQ.2 (.inr ⟨hy, hy2⟩))
   | true =>
    cases hxy : jW x y with
    | false => rfl
    | true => rw [ydl hxy hy2] at hk; cases hk
 ·rintro (rfl | ⟨h1 | ⟨h1, h2⟩, h3⟩)
  ·exact .inl (.inl rfl)
  ·exact .inl (.inr ⟨h1, h3⟩)
  ·refine .inr ⟨h1, fun y hy => ?_⟩
   rcases qQ.1 hy with rfl | ⟨hy, _⟩
   ·exact h3
   ·exact h2 y hy
theorem wT {x : y7} {l : List y7} : x ∈ K6 l ↔ x ∈ l ∧ x.2.2.1 ≠ 0 := by
 rw [qO, List.mem_filter]
 simp
theorem yh2 {l : List y7} (h : srt l) (k : y7) : K6 (Yr (K6 l) k) = K6 (Yr l k) := by
 refine y7J (Ve (We k (Ve h))) (Ve (We k h)) fun x => ?_
 rw [wT, wT, qQ, qQ, wT]
 constructor
 ·rintro ⟨rfl | ⟨⟨h1, h2⟩, h3⟩, h4⟩
  ·exact ⟨.inl rfl, h4⟩
  ·exact ⟨.inr ⟨h1, h3⟩, h4⟩
 ·rintro ⟨rfl | ⟨h1, h3⟩, h4⟩
  ·exact ⟨.inl rfl, h4⟩
  ·exact ⟨.inr ⟨⟨h1, h4⟩, h3⟩, h4⟩
theorem y4v (l : List y7) (h : ∀ x ∈ l, x.2.2.1 ≠ 0) : K6 l = l := by
 rw [qO, List.filter_eq_self]
 intro x hx
 simpa using h x hx
theorem yca (a b : List y7) : K6 (a ++ b) = K6 a ++ K6 b := by
 rw [qO, qO, qO, List.filter_append]
theorem y0f {n : List yb} {x : y7} (h : x ∈ yE n) : x.2.2.1 ≠ 0 := (wT.1 h).2
theorem yf7 (k : y7) {C : List y7} (hC : ∀ x ∈ C, wY k x = true) : ∀ {A B : List y7}, (∀ x ∈ A, wY x k = true) → Yr (A ++ B ++ C) k = A ++ Yr B k ++ C
 | a :: A, B, hA => by
  have := yf7 k hC (A := A) (B := B) fun x hx => hA x (by simp [hx])
  rw [K9] at *
  rw [List.cons_append, List.cons_append, y7Y, if_pos (hA a (by simp)), this, K9]
  rfl
 | [], B, _ => by
  rw [K9, K9, List.nil_append, List.nil_append]
  induction B with
  | nil =>
   cases C with
   | nil => rfl
   | cons c C =>
    rw [List.nil_append, show y7Y ([] : List y7) k = [k] from rfl, y7Y, if_neg, List.filter_eq_self.2]
    ·rfl
    ·intro x hx
     rw [y1V, y0e (hC x hx)]
     rfl
    ·intro h
     have := y19 h (hC c (by simp))
     rw [y1U] at this
     cases this
  | cons b B ih =>
   rw [List.cons_append, y7Y, y7Y]
   split
   ·rw [ih]
    rfl
   ·rw [← List.cons_append, List.filter_append, List.cons_append]
    congr 2
    rw [List.filter_eq_self]
    intro x hx
    rw [y1V, y0e (hC x hx)]
    rfl
def yfF (n : List yb) : List y7 := n.foldl Z7 []
theorem ycb (n : List yb) : srt (yfF n) := y4m n [] List.Pairwise.nil
theorem ycc (n : List yb) : yE n = K6 (yfF n) := rfl
theorem y98 {s : List y7} (h : Wd s = true) : srt s := by
 unfold Wd at h
 simp only [Bool.and_eq_true, Bool.not_eq_true', decide_eq_true_eq] at h
 have step : ∀ j : Nat, (hj : j + 1 < s.length) → wY s[j] s[j + 1] = true := fun j hj => by
  have := kq yL s 0 h.2.1 (j + 1) hj
  unfold wj at this
  rw [show ((0 : Int) + ((j + 1 : Nat) : Int) - 1).toNat = j by omega, zd _ _ _ (by omega), zd _ _ _ hj] at this
  simp only [Bool.and_eq_false_iff, Bool.not_eq_false', decide_eq_false_iff_not] at this
  rcases this with h1 | h1
  ·omega
  ·exact h1
 refine List.pairwise_iff_getElem.2 fun i j hi hj hij => ?_
 obtain ⟨d, rfl⟩ : ∃ d, j = i + 1 + d := ⟨j - (i + 1), by omega⟩
 induction d with
 | zero => exact step i hj
 | succ d ih => exact y19 (ih (by omega) (by omega)) (step (i + 1 + d) hj)
theorem Wh {l : List y7} (h : srt l) (hl : ∀ x ∈ l, x.2.2.1 ≠ 0) : yE (yU l) = l := by
 unfold yU
 split
 ·rename_i h0
  rw [List.length_eq_zero_iff.1 h0]
  rfl
 ·show K6 (Z7 [] l) = l
  rw [show Z7 [] l = l from y7J (qp l [] List.Pairwise.nil) h fun x => by rw [KE h]; simp]
  exact y4v l hl
theorem y3z (n : List yb) (s : yb) : yfF (n ++ [s]) = Z7 (yfF n) s := by
 unfold yfF
 rw [List.foldl_append]
 rfl
theorem yaW {n : List yb} (k : y7) (hn : ∀ s ∈ n, Wd s = true) : yE (wL n k) = Yq n k := by
 rw [ycc]
 unfold Yq
 rw [ycc, yh2 (ycb n)]
 congr 1
 unfold wL
 split
 ·rename_i h
  obtain ⟨n0, hn0⟩ : ∃ n0 : List yb, n = n0 ++ [we n] := by
   refine ⟨n.take (n.length - 1), ?_⟩
   unfold we
   rw [zd _ _ _ (by omega)]
   have e := List.take_append_drop (n.length - 1) n
   rw [List.drop_eq_getElem_cons (by omega), List.drop_eq_nil_of_le (by omega)] at e
   exact e.symm
  have hlast := y98 (hn _ (y4o h.1))
  have e1 : n.set (n.length - 1) (Yr (we n) k) = n0 ++ [Yr (we n) k] := by
   generalize we n = L at *
   rw [hn0, List.length_append, List.set_append_right _ _ (by simp)]
   simp
  rw [e1, y3z, yf6 (ycb n0) hlast k, ← y3z, ← hn0]
 ·rw [y3z]
  rfl
theorem ycd (n : List yb) (k : y7) : srt (Yq n k) := Ve (We k (qq n))
theorem y4w {n : List yb} {k x : y7} (h : x ∈ Yq n k) : x.2.2.1 ≠ 0 := (wT.1 h).2
theorem y99 {n : List yb} (k : y7) (hn : ∀ s ∈ n, Wd s = true) (h : (zt n k).2 = true) : yE (zt n k).1 = Yq n k := by
 unfold zt at h ⊢
 split
 ·exact yaW k hn
 ·rename_i h1
  rw [if_neg h1] at h
  split
  ·rename_i h2
   rw [if_pos h2] at h
   cases h
  ·rename_i h2
   rw [if_neg h2] at h
   split
   ·exact Wh (ycd n k) fun x hx => y4w hx
   ·rename_i h3
    rw [if_neg h3] at h
    cases h
theorem yxe (t : List y0) : ∀ s : List y7, t.foldl kn s = s ++ t.flatMap yE := by
 induction t with
 | nil => intro s; simp
 | cons n t ih =>
  intro s
  rw [List.foldl_cons, ih]
  simp [kn]
theorem Vg (t : List y0) : yq t = t.flatMap yE := by
 unfold yq
 rw [yxe]
 rfl
theorem YL (a b : List y0) : yq (a ++ b) = yq a ++ yq b := by
 rw [Vg, Vg, Vg, List.flatMap_append]
theorem Kt (n : y0) : yq [n] = yE n := by
 rw [Vg]
 simp
theorem y7K {t : List y0} {x : y7} : x ∈ yq t ↔ ∃ n ∈ t, x ∈ yE n := by
 rw [Vg, List.mem_flatMap]
theorem y4x {t : List y0} {x : y7} (h : x ∈ yq t) : x.2.2.1 ≠ 0 := by
 obtain ⟨n, _, hx⟩ := y7K.1 h
 exact y0f hx
theorem qs {A : Type} (d : A) (t : List A) (i : Nat) (h : i < t.length) : t = t.take i ++ ([t.getD i d] ++ t.drop (i + 1)) := by
 have e := List.take_append_drop i t
 rw [List.drop_eq_getElem_cons h] at e
 rw [zd _ _ _ h]
 exact e.symm
theorem y9a : ∀ (m : Nat) (q : List Int) (t : List y0), srt (yq t) → yq (wl m q t).2 = yq t
 | 0, _, _, _ => rfl
 | m + 1, q, t, h => by
  rw [wl]
  split
  ·rfl
  ·rename_i hp
   have hs : 0 ≤ yO t 0 ∧ yO t 0 + 2 ≤ (t.length : Int) := by
    rcases y2o t 0 with h1 | ⟨h1, h2, _⟩
    ·omega
    ·exact ⟨h1, by omega⟩
   have e1 := qs yi t (yO t 0).toNat (by omega)
   have e2 := qs yi (t.drop ((yO t 0).toNat + 1)) 0 (by rw [List.length_drop]; omega)
   have e3 : (t.drop ((yO t 0).toNat + 1)).getD 0 yi = t.getD (yO t 0 + 1).toNat yi := by
    rw [List.getD_eq_getElem?_getD, List.getD_eq_getElem?_getD, List.getElem?_drop, show (yO t 0).toNat + 1 + 0 = (yO t 0 + 1).toNat by omega]
   rw [e3, List.take_zero, List.nil_append, List.drop_drop] at e2
   have hk : yq t = yq (t.take (yO t 0).toNat) ++ ((yE (t.getD (yO t 0).toNat yi) ++ yE (t.getD (yO t 0 + 1).toNat yi)) ++ yq (t.drop ((yO t 0).toNat + 2))) := by
    conv => lhs; rw [e1]
    rw [e2, YL, YL, YL, Kt, Kt, List.append_assoc]
   have hx : srt (yE (t.getD (yO t 0).toNat yi) ++ yE (t.getD (yO t 0 + 1).toNat yi)) := by
    rw [hk] at h
    exact (List.pairwise_append.1 (List.pairwise_append.1 h).2.1).1
   have ht : yq (zi t (yO t 0).toNat 2 [yU (yE (t.getD (yO t 0).toNat yi) ++ yE (t.getD (yO t 0 + 1).toNat yi))]) = yq t := by
    unfold zi
    rw [YL, YL, Kt, Wh hx (fun x hx => (List.mem_append.1 hx).elim y0f y0f), hk, List.append_assoc]
   rw [y9a m _ _ (by rw [ht]; exact h), ht]
end Go.Proofs.YtgediecndaheiaaGreat.Pl
namespace Go.Proofs.YtgediecndaheiaaGreat.Pl
open Go.Proofs.YtgediecndaheiaaGreat.R Go.Proofs.YtgediecndaheiaaGreat.XS
theorem qt {A : Type} {p : A → Bool} : ∀ (l : List A) (i : Int), 0 ≤ i → zX p l i < 0 → ∀ a ∈ l, p a = false
 | [], _, _, _, a, ha => by simp at ha
 | b :: l, i, hi, h, a, ha => by
  rw [zX] at h
  split at h
  ·omega
  ·rename_i hb
   rcases List.mem_cons.1 ha with rfl | ha
   ·simpa using hb
   ·exact qt l (i + 1) (by omega) h a ha
theorem y7L {k : y7} (h : YE k = true) : Qj k = 64 * k.1 + k.2.1 ∧ 0 ≤ k.1 ∧ k.1 ≤ 15 ∧ 1 ≤ k.2.1 ∧ k.2.1 ≤ 60 := by
 unfold YE at h
 simp only [Bool.and_eq_true, zp] at h
 obtain ⟨⟨h1, h2⟩, ⟨h3, h4⟩, _⟩ := h
 refine ⟨?_, h1, h2, h3, h4⟩
 unfold Qj
 rw [w64 (n := 64 * k.1) (by omega) (by omega), w64 (by omega) (by omega)]
theorem y4y {a b : y7} (ha : YE a = true) (hb : YE b = true) : wY a b = true ↔ Qj a < Qj b := by
 have h1 := y7L ha
 have h2 := y7L hb
 rw [Vd, h1.1, h2.1]
 omega
structure Parts (q : List Int) (t : List y0) : Prop where
 len : q.length = t.length
 zero : q.getD 0 0 = 0
 pos : 0 < t.length
 ok : ∀ i, i < t.length → ∀ s ∈ (show List yb from t.getD i yi), Wd s = true
 low : ∀ i, i + 1 < t.length → q.getD i 0 < q.getD (i + 1) 0
 key : ∀ i, i < t.length → ∀ x ∈ yE (t.getD i yi), YE x = true ∧ q.getD i 0 ≤ Qj x ∧ (i + 1 < t.length → Qj x < q.getD (i + 1) 0)
theorem vf {q : List Int} {t : List y0} (h : zv q t = true) : Parts q t := by
 obtain ⟨f1, f2, f3, f4⟩ := JQ h
 unfold zv at h
 simp only [Bool.and_eq_true, Bool.not_eq_true', decide_eq_true_eq, zp, beq_iff_eq] at h
 obtain ⟨_, _, h0, h3, _⟩ := h
 have hb : ∀ i, i < t.length → yf0 q i = false ∧ y56 q i (t.getD i yi) = true := fun i hi => by
  have := kq yi t 0 h3 i hi
  unfold VL at this
  simp only [Bool.or_eq_false_iff, Bool.not_eq_false'] at this
  rw [show (0 : Int) + (i : Int) = i by omega] at this
  exact this
 have hmem : ∀ i, i < t.length → t.getD i yi ∈ t := fun i hi => by
  rw [zd _ _ _ hi]
  exact List.getElem_mem _
 have hset : ∀ i, i < t.length → ∀ s ∈ (show List yb from t.getD i yi), Wd s = true := fun i hi s hs => (y1M (f4 _ (hmem i hi))).2 s hs
 refine ⟨f1, h0, by omega, hset, fun i hi => ?_, fun i hi x hx => ?_⟩
 ·have := (hb (i + 1) hi).1
  unfold yf0 at this
  simp only [Bool.and_eq_false_iff, decide_eq_false_iff_not] at this
  rcases this with h1 | h1
  ·omega
  ·rw [show (((i + 1 : Nat) : Int) - 1).toNat = i by omega, show (((i + 1 : Nat) : Int)).toNat = i + 1 by omega] at h1
   omega
 ·obtain ⟨c, hc, hxc⟩ := y1N hx
  refine ⟨(y3x (hset i hi c hc)).2 x hxc, ?_⟩
  have h1 := (hb i hi).2
  unfold y56 at h1
  simp only [Bool.and_eq_true, Bool.not_eq_true'] at h1
  obtain ⟨_, h2⟩ := kr _ _ 0 h1.2.2 c hc
  unfold yaQ at h2
  obtain ⟨_, h3⟩ := kr _ _ 0 h2 x hxc
  unfold yiS at h3
  simp only [Bool.or_eq_false_iff, decide_eq_false_iff_not, Bool.and_eq_false_iff] at h3
  rw [show ((i : Nat) : Int).toNat = i by omega, show (((i : Nat) : Int) + 1).toNat = i + 1 by omega] at h3
  refine ⟨by omega, fun h4 => ?_⟩
  rcases h3.2 with h5 | h5 <;> omega
section
variable {q : List Int} {t : List y0} (h : Parts q t)
include h
theorem Parts.lows : ∀ (d i : Nat), i + 1 + d < t.length → q.getD i 0 < q.getD (i + 1 + d) 0
 | 0, i, hi => h.low i hi
 | d + 1, i, hi => by
  have h1 := Parts.lows d i (by omega)
  have h2 := h.low (i + 1 + d) (by omega)
  rw [show i + 1 + (d + 1) = i + 1 + d + 1 by omega]
  omega
theorem Parts.apart {i j : Nat} (hij : i < j) (hj : j < t.length) : ∀ x ∈ yE (t.getD i yi), Qj x < q.getD j 0 := fun x hx => by
 obtain ⟨_, _, h3⟩ := h.key i (by omega) x hx
 have h3 := h3 (by omega)
 by_cases e : j = i + 1
 ·rw [e]
  exact h3
 ·have := h.lows (j - (i + 1) - 1) (i + 1) (by omega)
  rw [show i + 1 + 1 + (j - (i + 1) - 1) = j by omega] at this
  omega
theorem Parts.srt : srt (yq t) := by
 rw [Vg]
 refine List.pairwise_flatMap.2 ⟨fun n hn => qq n, List.pairwise_iff_getElem.2 fun i j hi hj hij x hx y hy => ?_⟩
 rw [← zd yi t i hi] at hx
 rw [← zd yi t j hj] at hy
 obtain ⟨kx, _⟩ := h.key i hi x hx
 obtain ⟨ky, ly, _⟩ := h.key j hj y hy
 rw [y4y kx ky]
 have := h.apart hij hj x hx
 omega
omit h in
theorem yce (q : List Int) (sp : Int) : ∀ (n : Nat) (j : Nat), W2 q sp n = (j : Int) → q.getD j 0 ≤ sp ∧ j < n ∧ ∀ i, j < i → i < n → sp < q.getD i 0
 | 0, j, h => by
  rw [W2] at h
  omega
 | n + 1, j, h => by
  rw [W2] at h
  split at h
  ·rename_i hq
   have : j = n := by omega
   subst this
   exact ⟨hq, Nat.lt_succ_self _, fun i h1 h2 => by omega⟩
  ·rename_i hq
   obtain ⟨h1, h2, h3⟩ := yce q sp n j h
   refine ⟨h1, by omega, fun i h4 h5 => ?_⟩
   by_cases e : i = n
   ·subst e
    omega
   ·exact h3 i h4 (by omega)
theorem Parts.around {k : y7} (hk : YE k = true) {j : Nat} (hj : W2 q (Ja k.1 k.2.1) q.length = (j : Int)) : (∀ x ∈ yq (t.take j), wY x k = true) ∧ ∀ x ∈ yq (t.drop (j + 1)), wY k x = true := by
 have hs : Ja k.1 k.2.1 = Qj k := rfl
 rw [hs] at hj
 obtain ⟨h1, h2, h3⟩ := yce q (Qj k) q.length j hj
 rw [h.len] at h2 h3
 refine ⟨fun x hx => ?_, fun x hx => ?_⟩
 ·obtain ⟨n, hn, hx⟩ := y7K.1 hx
  obtain ⟨i, hi, rfl⟩ := List.mem_iff_getElem.1 hn
  rw [List.length_take] at hi
  rw [List.getElem_take, ← zd yi t i (by omega)] at hx
  have hx1 := (h.key i (by omega) x hx).1
  have := h.apart (show i < j by omega) h2 x hx
  rw [y4y hx1 hk]
  omega
 ·obtain ⟨n, hn, hx⟩ := y7K.1 hx
  obtain ⟨i, hi, rfl⟩ := List.mem_iff_getElem.1 hn
  rw [List.length_drop] at hi
  rw [List.getElem_drop, ← zd yi t (j + 1 + i) (by omega)] at hx
  obtain ⟨hx1, hx2, _⟩ := h.key (j + 1 + i) (by omega) x hx
  have := h3 (j + 1 + i) (by omega) (by omega)
  rw [y4y hk hx1]
  omega
end
theorem y2Q {q : List Int} {t : List y0} {k : y7} (h : zv q t = true) (hk : YE k = true) : yq (yy q t k).2 = K6 (Yr (yq t) k) := by
 have hP := vf h
 obtain ⟨e1, e2, e3⟩ := y0v h hk
 obtain ⟨hA, hC⟩ := hP.around hk e1
 have hsp := qs yi t (z0 q k) e2
 have ht : yq t = yq (t.take (z0 q k)) ++ yE (t.getD (z0 q k) yi) ++ yq (t.drop (z0 q k + 1)) := by
  conv => lhs; rw [hsp]
  rw [YL, YL, Kt, List.append_assoc]
 have hgoal : K6 (Yr (yq t) k) = yq (t.take (z0 q k)) ++ (Yq (t.getD (z0 q k) yi) k ++ yq (t.drop (z0 q k + 1))) := by
  rw [ht, yf7 k hC hA, yca, yca, y4v _ (fun x hx => y4x hx), y4v _ (fun x hx => y4x hx), List.append_assoc]
  rfl
 have hok := hP.ok (z0 q k) e2
 have hset : ∀ n' : y0, yq (t.set (z0 q k) n') = yq (t.take (z0 q k)) ++ (yE n' ++ yq (t.drop (z0 q k + 1))) := fun n' => by
  rw [← y2n t (z0 q k) n' e2]
  unfold zi
  rw [YL, YL, Kt, List.append_assoc]
 rw [hgoal]
 unfold yy
 generalize hn : t.getD (z0 q k) yi = n at *
 split
 ·unfold zi
  simp only
  have hw := ycd n k
  have e4 : ∀ m, yE (yU ((Yq n k).take m)) = (Yq n k).take m := fun m => Wh (List.Pairwise.sublist (List.take_sublist _ _) hw) fun x hx => y4w (List.mem_of_mem_take hx)
  have e5 : ∀ m, yE (yU ((Yq n k).drop m)) = (Yq n k).drop m := fun m => Wh (List.Pairwise.sublist (List.drop_sublist _ _) hw) fun x hx => y4w (List.mem_of_mem_drop hx)
  rw [YL, YL, show [yU ((Yq n k).take (kz (Yq n k))), yU ((Yq n k).drop (kz (Yq n k)))] = [yU ((Yq n k).take (kz (Yq n k)))] ++ [yU ((Yq n k).drop (kz (Yq n k)))] from rfl, YL, Kt, Kt, e4, e5, List.take_append_drop, List.append_assoc]
 ·rename_i h1
  have h2 := y99 k hok (by simpa using h1)
  split
  ·rename_i h3
   rw [h2] at h3
   unfold zi
   simp only
   rw [List.length_eq_zero_iff.1 h3.2, YL, YL]
   simp [Vg]
  ·rw [hset, h2]
theorem yaX {q : List Int} {t : List y0} {k : y7} (h : zv q t = true) (hk : YE k = true) : srt (yq (yy q t k).2) := by
 rw [y2Q h hk]
 exact Ve (We k (vf h).srt)
theorem Vx {q : List Int} {t : List y0} {k : y7} (h : (yx q t k).2.2 = true) : zv q t = true ∧ YE k = true ∧ zv (yx q t k).1 (yx q t k).2.1 = true ∧ yq (yx q t k).2.1 = K6 (Yr (yq t) k) := by
 unfold yx at h ⊢
 split
 ·rename_i h1
  rw [if_pos h1] at h
  simp only [Bool.and_eq_true] at h1
  split
  ·rename_i h2
   exact ⟨h1.1, h1.2, h2, (y9a _ _ _ (yaX h1.1 h1.2)).trans (y2Q h1.1 h1.2)⟩
  ·rename_i h2
   rw [if_neg h2] at h
   cases h
 ·rename_i h1
  rw [if_neg h1] at h
  cases h
theorem yf8 {s : List y7} {b a : Int} (h : (Wf s b a).2.2.2.2.2 = true) : ∃ c ∈ s, c.1 = b ∧ c.2.1 = a ∧ Wf s b a = y0c c := by
 unfold Wf at h ⊢
 split
 ·rename_i h1
  rw [if_pos h1] at h
  cases h
 ·rename_i h1
  rcases YJ (atP b a) yL s 0 (Int.le_refl _) with h2 | ⟨h2, h3, h4⟩
  ·omega
  ·rw [Int.sub_zero] at h4
   unfold atP at h4
   simp only [Bool.and_eq_true, beq_iff_eq] at h4
   exact ⟨_, yI yL s _ h2 (by omega), h4.1, h4.2, rfl⟩
theorem yh3 {s : List y7} {b a : Int} (h : (Wf s b a).2.2.2.2.2 = false) : ∀ c ∈ s, ¬ (c.1 = b ∧ c.2.1 = a) := by
 unfold Wf at h
 split at h
 ·rename_i h1
  intro c hc hh
  have := qt s 0 (Int.le_refl _) h1 c hc
  unfold atP at this
  rw [hh.1, hh.2] at this
  simp at this
 ·cases h
theorem y7M {s : List y7} (h : srt s) {x y : y7} (hx : x ∈ s) (hy : y ∈ s) (he : jW x y = true) : x = y := by
 obtain ⟨i, hi, rfl⟩ := List.mem_iff_getElem.1 hx
 obtain ⟨j, hj, rfl⟩ := List.mem_iff_getElem.1 hy
 have hp := List.pairwise_iff_getElem.1 h
 rcases Nat.lt_trichotomy i j with h1 | h1 | h1
 ·rw [y0e (hp i j hi hj h1)] at he
  cases he
 ·subst h1
  rfl
 ·rw [y1V, y0e (hp j i hj hi h1)] at he
  cases he
theorem yh4 (n : List yb) (m : Nat) (hm : m < n.length) : yfF (n.take (m + 1)) = Z7 (yfF (n.take m)) (n.getD m yW) := by
 rw [List.take_succ, List.getElem?_eq_getElem hm, zd _ _ _ hm]
 exact y3z _ _
theorem y1W {n : List yb} (hn : ∀ s ∈ n, Wd s = true) (b a : Int) : ∀ m, m ≤ n.length → ((jF n b a m).2.2.2.2.2 = true → ∃ c ∈ K6 (yfF (n.take m)), c.1 = b ∧ c.2.1 = a ∧ jF n b a m = y0c c) ∧ ((jF n b a m).2.2.2.2.2 = false → (∀ c ∈ K6 (yfF (n.take m)), ¬ (c.1 = b ∧ c.2.1 = a)) ∧ jF n b a m = y4n)
 | 0, _ => ⟨fun h => by simp [jF, y4n] at h, fun _ => ⟨fun c hc => by simp [yfF, K6] at hc, rfl⟩⟩
 | m + 1, hm => by
  obtain ⟨ih1, ih2⟩ := y1W hn b a m (by omega)
  have hs : Wd (n.getD m yW) = true := hn _ (by rw [zd _ _ _ (by omega)]; exact List.getElem_mem _)
  have hsrt := y98 hs
  have hall := yh4 n m (by omega)
  rw [jF, hall]
  generalize n.getD m yW = s at *
  cases hok : (Wf s b a).2.2.2.2.2 with
  | true =>
   obtain ⟨c, hc, c1, c2, hce⟩ := yf8 hok
   rw [if_pos rfl, hce]
   have hsame : ∀ c', c'.1 = b ∧ c'.2.1 = a → jW c' c = true := fun c' h => ZG.2 ⟨h.1.trans c1.symm, h.2.trans c2.symm⟩
   by_cases h0 : c.2.2.1 = 0
   ·rw [if_pos (by simp [y0c, h0])]
    refine ⟨fun h => by simp [y4n] at h, fun _ => ⟨fun c' hc' hh => ?_, rfl⟩⟩
    obtain ⟨h1, h2⟩ := wT.1 hc'
    rcases (KE hsrt).1 h1 with h3 | ⟨_, h3⟩
    ·rw [y7M hsrt h3 hc (hsame c' hh)] at h2
     exact h2 h0
    ·have := hsame c' hh
     rw [h3 c hc] at this
     cases this
   ·rw [if_neg (by simp [y0c, h0])]
    refine ⟨fun _ => ⟨c, wT.2 ⟨(KE hsrt).2 (.inl hc), h0⟩, c1, c2, rfl⟩, fun h => by simp [y0c] at h⟩
  | false =>
   rw [if_neg (by simp)]
   have hno := yh3 hok
   refine ⟨fun h => ?_, fun h => ⟨fun c hc hh => ?_, (ih2 h).2⟩⟩
   ·obtain ⟨c, hc, c1, c2, hce⟩ := ih1 h
    obtain ⟨h1, h2⟩ := wT.1 hc
    refine ⟨c, wT.2 ⟨(KE hsrt).2 (.inr ⟨h1, fun y hy => ?_⟩), h2⟩, c1, c2, hce⟩
    cases hcy : jW c y with
    | false => rfl
    | true =>
     rw [ZG] at hcy
     exact absurd ⟨hcy.1.symm.trans c1, hcy.2.symm.trans c2⟩ (hno y hy)
   ·obtain ⟨h1, h2⟩ := wT.1 hc
    rcases (KE hsrt).1 h1 with h3 | ⟨h3, _⟩
    ·exact hno c h3 hh
    ·exact (ih2 h).1 c (wT.2 ⟨h3, h2⟩) hh
theorem yaY {q : List Int} {t : List y0} (h : zv q t = true) {b a : Int} (hb : 0 ≤ b ∧ b ≤ 15) (ha : 1 ≤ a ∧ a ≤ 60) :
  ((Za q t b a).2.2.2.2.2 = true → ∃ c ∈ yq t, c.1 = b ∧ c.2.1 = a ∧ Za q t b a = y0c c) ∧ ((Za q t b a).2.2.2.2.2 = false → ∀ c ∈ yq t, ¬ (c.1 = b ∧ c.2.1 = a)) := by
 have hP := vf h
 have hk : YE (b, a, 0, 0, 0) = true := by
  unfold YE
  simp only [zp.2 hb, zp.2 ha]
  rfl
 obtain ⟨e1, e2, e3⟩ := y0v h hk
 obtain ⟨hA, hC⟩ := hP.around hk e1
 have hsp := qs yi t (z0 q (b, a, 0, 0, 0)) e2
 have ht : yq t = yq (t.take (z0 q (b, a, 0, 0, 0))) ++ (yE (t.getD (z0 q (b, a, 0, 0, 0)) yi) ++ yq (t.drop (z0 q (b, a, 0, 0, 0) + 1))) := by
  conv => lhs; rw [hsp]
  rw [YL, YL, Kt]
 have hrd : ye t ((z0 q (b, a, 0, 0, 0) : Nat) : Int) = t.getD (z0 q (b, a, 0, 0, 0)) yi := rfl
 have hte : Za q t b a = jF (t.getD (z0 q (b, a, 0, 0, 0)) yi) b a (List.length (show List yb from t.getD (z0 q (b, a, 0, 0, 0)) yi)) := by
  unfold Za
  rw [show W2 q (Ja b a) q.length = ((z0 q (b, a, 0, 0, 0) : Nat) : Int) from e1, if_pos (zp.2 ⟨by omega, by omega⟩), hrd]
 have hn := hP.ok _ e2
 obtain ⟨n1, n2⟩ := y1W hn b a _ (Nat.le_refl _)
 rw [List.take_length] at n1 n2
 rw [hte, ht]
 refine ⟨fun hh => ?_, fun hh c hc hcc => ?_⟩
 ·obtain ⟨c, hc, r⟩ := n1 hh
  exact ⟨c, List.mem_append_right _ (List.mem_append_left _ hc), r⟩
 ·have hs : jW c (b, a, 0, 0, 0) = true := ZG.2 hcc
  rcases List.mem_append.1 hc with hc | hc
  ·rw [y0e (hA c hc)] at hs
   cases hs
  ·rcases List.mem_append.1 hc with hc | hc
   ·exact (n2 hh).1 c hc hcc
   ·rw [y1V, y0e (hC c hc)] at hs
    cases hs
end Go.Proofs.YtgediecndaheiaaGreat.Pl
namespace Go.Proofs.YtgediecndaheiaaGreat.Pl
open Go.Proofs.YtgediecndaheiaaGreat.R Go.Proofs.YtgediecndaheiaaGreat.XS
def y1X (fr id : Int) (x : y9) : y9 := if (x.2 == id) = true then (x.1, fr) else x
def yAk (l : List y9) (i : Nat) (id : Int) : List y9 := (l.map (y1X (l.getD i zc).2 id)).eraseIdx i
def y4z (l : List y9) (id : Int) : List y9 × Bool := if z9 l id < 0 then (l, false) else if ji l = true then (yAk l (z9 l id).toNat id, true) else (l, false)
theorem y2q (l : List y9) (h : l.length ≤ 1048576) : zS l = some l := by
 unfold zS
 rw [if_pos (by simp only [List.length_nil]; omega)]
 rfl
theorem y3A {A : Type} (p : A → Bool) : ∀ (l : List A) (i : Int), zX p l i = -1 ∨ i ≤ zX p l i ∧ zX p l i < i + l.length
 | [], _ => .inl rfl
 | a :: l, i => by
  rw [zX]
  split
  ·refine .inr ⟨Int.le_refl _, by simp only [List.length_cons]; omega⟩
  ·rcases y3A p l (i + 1) with h | ⟨h1, h2⟩
   ·exact .inl h
   ·exact .inr ⟨by omega, by simp only [List.length_cons]; omega⟩
theorem y5f (l : List y9) (id : Int) (hl : l.length ≤ 1048576) : w8 (l, id) = some (y4z l id) := by
 unfold w8 y4z
 simp only [ZE l id (by omega), Kp l hl, Option.bind_some]
 by_cases h0 : z9 l id < 0
 ·rw [decide_eq_true h0, if_pos h0]
  simp only [cond_true, Option.bind_some]
  rw [if_pos (by simp only [List.length_nil]; omega)]
  rfl
 ·rw [decide_eq_false h0, if_neg h0]
  cases hA : ji l with
  | false =>
   simp only [cond_false, Bool.not_false, Option.bind_some, cond_true]
   rw [if_pos (by simp only [List.length_nil]; omega)]
   rfl
  | true =>
   simp only [cond_false, Bool.not_true, Option.bind_some, if_true]
   have hi1 : z9 l id < (l.length : Int) := by
    rcases y3A (fun a : y9 => a.1 == id) l 0 with h | ⟨h1, h2⟩
    ·have : z9 l id = -1 := h
     omega
    ·have : z9 l id = zX (fun a : y9 => a.1 == id) l 0 := rfl
     omega
   generalize z9 l id = i at h0 hi1
   unfold QM
   have key := ZD (step := WO (fun x4 => some (x4, true))) (fun x : List y9 × Int × Int × Int × List y9 => l.length - x.2.2.2.1.toNat) (fun x => x.1 = l ∧ x.2.1 = id ∧ x.2.2.1 = i ∧ 0 ≤ x.2.2.2.1 ∧ x.2.2.2.1 ≤ (l.length : Int) ∧ x.2.2.2.2.length ≤ x.2.2.2.1.toNat)
    (fun x => some (x.2.2.2.2 ++ (if x.2.2.2.1 ≤ i then ((l.drop x.2.2.2.1.toNat).map (y1X (l.getD i.toNat zc).2 id)).eraseIdx (i - x.2.2.2.1).toNat else (l.drop x.2.2.2.1.toNat).map (y1X (l.getD i.toNat zc).2 id)), true)) ?_ (l, id, i, 0, []) ⟨rfl, rfl, rfl, Int.le_refl _, by simp, by simp⟩ (by simp; omega)
   ·rw [key]
    simp only [List.nil_append]
    rw [if_pos (by omega), Int.sub_zero]
    rfl
   ·rintro again ⟨l', id', i', j, o⟩ ⟨rfl, rfl, rfl, j0, j1, ho⟩ hag
    simp only at j0 j1 ho hl hi1 h0 ⊢
    unfold WO
    by_cases hj : j < (l'.length : Int)
    ·have hw : Go.IntKind.wrap .i64 (j + 1) = j + 1 := w64 (by omega) (by omega)
     have hd := wK zc l' j j0 hj
     have e1 : (j + 1).toNat = j.toNat + 1 := by omega
     have hlen : ∀ y : y9, (List.length o + List.length ([y] : List y9)) * 16 < 140737488355328 := fun y => by simp only [List.length_cons, List.length_nil]; omega
     have hstep : ∀ y, y = y1X (l'.getD i'.toNat zc).2 id' (l'.getD j.toNat zc) → (bif (j != i') then if (List.length o + List.length ([y] : List y9)) * 16 < 140737488355328 then again (l', id', i', j + 1, o ++ [y]) else none else again (l', id', i', j + 1, o)) = some (o ++ (if j ≤ i' then ((l'.drop j.toNat).map (y1X (l'.getD i'.toNat zc).2 id')).eraseIdx (i' - j).toNat else (l'.drop j.toNat).map (y1X (l'.getD i'.toNat zc).2 id')), true) := by
      rintro y rfl
      rw [hd, List.map_cons]
      by_cases hji : j = i'
      ·rw [show (j != i') = false by simp [hji], cond_false, if_pos (by omega), show (i' - j).toNat = 0 by omega, List.eraseIdx_zero, List.tail_cons]
       have := hag (l', id', i', j + 1, o) ⟨rfl, rfl, rfl, by simp only; omega, by simp only; omega, by simp only; omega⟩ (by simp only; omega)
       rw [this]
       simp only
       rw [if_neg (by omega)]
      ·rw [show (j != i') = true by simpa using hji, cond_true, if_pos (hlen _)]
       have := hag (l', id', i', j + 1, o ++ [y1X (l'.getD i'.toNat zc).2 id' (l'.getD j.toNat zc)]) ⟨rfl, rfl, rfl, by simp only; omega, by simp only; omega, by simp only [List.length_append, List.length_cons, List.length_nil]; omega⟩ (by simp only; omega)
       rw [this]
       simp only
       by_cases hlt : j ≤ i'
       ·rw [if_pos hlt, if_pos (by omega), show (i' - j).toNat = (i' - (j + 1)).toNat + 1 by omega, List.eraseIdx_cons_succ, List.append_assoc]
        rfl
       ·rw [if_neg hlt, if_neg (by omega), List.append_assoc]
        rfl
     have hrd : yM l' j = l'.getD j.toNat zc := rfl
     simp only [hw]
     rw [decide_eq_true hj, cond_true, if_pos j0, if_pos hj]
     by_cases hid : (l'.getD j.toNat zc).2 = id'
     ·have hb : ((yM l' j).2 == id') = true := beq_iff_eq.2 hid
      rw [hb, cond_true, if_pos (by omega), if_pos hi1]
      exact hstep _ (by unfold y1X; rw [if_pos (beq_iff_eq.2 hid)]; rfl)
     ·have hb : ((yM l' j).2 == id') = false := beq_eq_false_iff_ne.2 hid
      rw [hb, cond_false]
      exact hstep _ (by unfold y1X; rw [if_neg (by simpa using hid)]; rfl)
    ·rw [decide_eq_false hj, cond_false, List.drop_of_length_le (by omega)]
     simp
def y36 (cs : List y8) (i : Int) : List y8 := if zA cs = true ∧ 0 ≤ i ∧ i ≤ 23 ∧ (cs.getD i.toNat yS).2.1 = true then cs.set i.toNat (Int.tmod (Go.IntKind.wrap .i64 ((cs.getD i.toNat yS).1 + 1)) 1000, false, 0) else cs
theorem y4A (cs : List y8) (i : Int) : (y36 cs i).length = cs.length := by
 unfold y36
 split
 ·simp
 ·rfl
theorem y7N {cs : List y8} (h : zA cs = true) : cs.length = 24 := by
 unfold zA at h
 simp only [Bool.and_eq_true, beq_iff_eq] at h
 omega
theorem y0w {cs : List y8} {i : Int} (h : ¬ (zA cs = true ∧ 0 ≤ i ∧ i ≤ 23 ∧ (cs.getD i.toNat yS).2.1 = true)) : y36 cs i = cs := if_neg h
theorem y9b {cs : List y8} {i : Int} (h : zA cs = true ∧ 0 ≤ i ∧ i ≤ 23 ∧ (cs.getD i.toNat yS).2.1 = true) : y36 cs i = cs.set i.toNat (Int.tmod (Go.IntKind.wrap .i64 ((cs.getD i.toNat yS).1 + 1)) 1000, false, 0) := if_pos h
theorem KV (cs : List y8) (i : Int) (hc : cs.length ≤ 1048576) : ZV (cs, i) = some (y36 cs i) := by
 have e1 : Y6 cs = some cs := by
  unfold Y6
  rw [if_pos (by simp only [List.length_nil]; omega)]
  rfl
 unfold ZV
 simp only [e1, JP cs hc, Z8, Option.bind_some]
 cases hk : zA cs with
 | false =>
  rw [y0w fun h => by rw [hk] at h; cases h.1]
  rfl
 | true =>
  have h24 := y7N hk
  have hw : Go.IntKind.wrap .i64 ((cs.length : Int) - 1) = 23 := by rw [w64 (by omega) (by omega)]; omega
  simp only [hw, cond_true, Option.bind_some]
  cases hi : inR i 0 23 with
  | false =>
   have : ¬ (0 ≤ i ∧ i ≤ 23) := fun h => by rw [zp.2 h] at hi; cases hi
   rw [y0w fun h => this ⟨h.2.1, h.2.2.1⟩]
   rfl
  | true =>
   obtain ⟨i0, i1⟩ := zp.1 hi
   rw [cond_true, if_pos i0, if_pos (by omega)]
   have hrd : yo cs i = cs.getD i.toNat yS := rfl
   rw [hrd]
   cases hu : (cs.getD i.toNat yS).2.1 with
   | false =>
    rw [y0w fun h => by have := h.2.2.2; rw [hu] at this; cases this]
    rfl
   | true =>
    simp only [Option.bind_some, cond_true]
    rw [if_pos i0, if_pos (by omega), if_pos i0, if_pos (by omega), y9b ⟨hk, i0, i1, hu⟩]
theorem y37 (cs : List y8) (i : Int) (hc : cs.length ≤ 1048576) : JO (cs, i) = some (y36 cs i) := by
 have e1 : zG cs = some cs := by
  unfold zG
  rw [if_pos (by simp only [List.length_nil]; omega)]
  rfl
 unfold JO
 simp only [e1, Vc cs hc, ZF, Option.bind_some]
 cases hk : zA cs with
 | false =>
  rw [y0w fun h => by rw [hk] at h; cases h.1]
  rfl
 | true =>
  have h24 := y7N hk
  simp only [Bool.not_true, cond_false, Option.bind_some]
  cases hi : inR i 0 23 with
  | false =>
   have : ¬ (0 ≤ i ∧ i ≤ 23) := fun h => by rw [zp.2 h] at hi; cases hi
   rw [y0w fun h => this ⟨h.2.1, h.2.2.1⟩]
   rfl
  | true =>
   obtain ⟨i0, i1⟩ := zp.1 hi
   rw [Bool.not_true, cond_false, if_pos i0, if_pos (by omega)]
   have hrd : yo cs i = cs.getD i.toNat yS := rfl
   rw [hrd]
   cases hu : (cs.getD i.toNat yS).2.1 with
   | false =>
    rw [y0w fun h => by have := h.2.2.2; rw [hu] at this; cases this]
    rfl
   | true =>
    simp only [Option.bind_some, Bool.not_true, cond_false]
    rw [if_pos i0, if_pos (by omega), if_pos i0, if_pos (by omega), y9b ⟨hk, i0, i1, hu⟩]
end Go.Proofs.YtgediecndaheiaaGreat.Pl
namespace Go.Proofs.YtgediecndaheiaaGreat.Pl
open Go.Proofs.YtgediecndaheiaaGreat.R Go.Proofs.YtgediecndaheiaaGreat.XS
def yf9 (l : List y9) (vs : List yc) (id : Int) : Bool := y95 vs id && ((Yj l id).length : Int) == 1
def Jb (q : List Int) (t : List y0) (l : List y9) (vs : List yc) (step : Int) (k : y7) : Bool :=
 if step = 1 then !yaP t l vs k else if step = 2 then (k.2.2.1 == 2) && !(yc6 t l k.1 k.2.1).1 else
  yf9 l vs k.2.1 && !(Za q t k.1 ((Yj l k.2.1).getD 0 0)).2.2.2.2.2
theorem yh5 (l : List y9) (id : Int) : ∀ x ∈ Yj l id, ∃ a ∈ l, a.1 = x := by
 have : ∀ (l : List y9) (s : List Int) (x : Int), x ∈ l.foldl (qo id) s → x ∈ s ∨ ∃ a ∈ l, a.1 = x := by
  intro l
  induction l with
  | nil => intro s x h; exact .inl h
  | cons a l ih =>
   intro s x h
   rw [List.foldl_cons] at h
   rcases ih _ x h with h | ⟨b, hb, e⟩
   ·unfold qo at h
    split at h
    ·rcases List.mem_append.1 h with h | h
     ·exact .inl h
     ·exact .inr ⟨a, by simp, (by simpa using h : x = a.1).symm⟩
    ·exact .inl h
   ·exact .inr ⟨b, by simp [hb], e⟩
 intro x hx
 rcases this l [] x hx with h | h
 ·simp at h
 ·exact h
theorem ycf {A : Type} {p : A → Bool} : ∀ (l : List A) (i : Int), YK (fun _ a => p a) l i = false → ∀ a ∈ l, p a = false
 | b :: l, i, h, a, ha => by
  rw [YK, Bool.or_eq_false_iff] at h
  rcases List.mem_cons.1 ha with rfl | ha
  ·exact h.1
  ·exact ycf l (i + 1) h.2 a ha
theorem yh6 {l : List y9} (h : ji l = true) : ∀ a ∈ l, 1 ≤ a.1 := by
 unfold ji y34 at h
 simp only [Bool.and_eq_true, Bool.not_eq_true'] at h
 have h1 := h.1
 rw [yaO, Bool.or_eq_false_iff] at h1
 intro a ha
 have := ycf (p := fun a : y9 => !inR a.1 1 60) l 0 h1.1 a ha
 simp only [Bool.not_eq_false'] at this
 exact (zp.1 this).1
section
variable (q : List Int) (t : List y0) (l : List y9) (cs : List y8) (vs : List yc) (z : Int)
theorem y4B (ht : TOk t) (hq : q.length ≤ 1048576) (hl : l.length ≤ 1048576) (hv : vs.length ≤ 1048576) (hpos : ∀ a ∈ l, 1 ≤ a.1) (step : Int) (k1 k2 k3 k4 k5 : Int) : WL (q, t, l, cs, vs, z, step, k1, k2, k3, k4, k5) = some (Jb q t l vs step (k1, k2, k3, k4, k5)) := by
 unfold WL Jb
 simp only [Bool.cond_eq_ite, beq_iff_eq, y2l q t l cs vs z k1 k2 k3 k4 k5 ht hl hv, y1O q t l k1 k2 ht hl, Option.bind_some]
 by_cases h1 : step = 1
 ·simp only [h1, if_true]
 by_cases h2 : step = 2
 ·subst h2
  simp only [if_true, if_neg (show ¬ (2 : Int) = 1 by omega)]
  by_cases h3 : k3 = 2
  ·have : (k3 == 2) = true := by simp [h3]
   rw [this, if_pos h3]
   rfl
  ·have : (k3 == 2) = false := by simpa using h3
   rw [this, if_neg h3]
   rfl
 simp only [h1, h2, if_false]
 unfold Kj Zr yf9
 simp only [Kq l k2 hl, y09 q t l cs vs z k2 hv, Option.bind_some]
 cases y95 vs k2
 ·rfl
 by_cases hk : ((Yj l k2).length : Int) = 1
 ·have g1 : (((Yj l k2).length : Int) != 1) = false := by simp [hk]
  have g2 : (((Yj l k2).length : Int) == 1) = true := by simp [hk]
  have hlt : (0 : Int) < ((Yj l k2).length : Int) := by omega
  have hne : ((Yj l k2).getD 0 0 == 0) = false := by
   have hm : (Yj l k2).getD 0 0 ∈ Yj l k2 := yI 0 (Yj l k2) 0 (Int.le_refl _) hlt
   obtain ⟨a, ha, e⟩ := yh5 l k2 _ hm
   have := hpos a ha
   simp only [beq_eq_false_iff_ne, ne_eq]
   omega
  have hx : zw (Yj l k2) 0 = (Yj l k2).getD 0 0 := rfl
  simp only [g1, g2, hlt, Bool.not_true, cond_false, cond_true, Option.bind_some, Int.le_refl, if_true, hx, hne, Kr q t k1 _ ht hq, Bool.true_and, Bool.and_self, Bool.and_true, Bool.true_and]
 ·have g1 : (((Yj l k2).length : Int) != 1) = true := by simpa using hk
  have g2 : (((Yj l k2).length : Int) == 1) = false := by simpa using hk
  simp only [g1, g2]
  rfl
def yh7 (id : Int) (_ : Int) (k : y7) : Bool := k.2.1 == id
def ylS (ks : List y7) (l : List y9) (vs : List yc) (a : y9) : Bool := !YK (yh7 a.1) ks 0 && (y95 vs a.1 && decide (((Yj l a.1).length : Int) ≤ 1))
theorem yaZ (ht : TOk t) (hl : l.length ≤ 1048576) (hv : vs.length ≤ 1048576) (a : y9) : WM (q, t, l, cs, vs, z, a.1) = some (ylS (yq t) l vs a) := by
 unfold WM QL ylS
 have hk := ht.keys
 have e : yN (q, t) = some (yq t) := YO q t (by have := ht.len; omega) ht.nodes ht.sum
 simp only [e, Option.bind_some]
 generalize yq t = ks at hk
 refine (zU (step := Jr _ _) (fun i => (a.1, i, q, t, l, cs, vs, z, ks)) (yh7 a.1) (some false) (some (y95 vs a.1 && decide (((Yj l a.1).length : Int) ≤ 1))) yL ks (by omega) ?_ ?_).trans ?_
 ·intro again i h0 h1
  have hw : Go.IntKind.wrap .i64 (i + 1) = i + 1 := w64 (by omega) (by omega)
  unfold Jr yh7
  have hx : ks.getD i.toNat yL = y6 ks i := rfl
  rw [hx]
  simp only [Bool.cond_eq_ite, decide_eq_true_eq, h0, h1, if_true, hw]
 ·intro again i hi
  unfold Jr
  simp only [Bool.cond_eq_ite, decide_eq_true_eq, if_neg hi, y09 q t l cs vs z a.1 hv, Kq l a.1 hl, Option.bind_some]
  cases y95 vs a.1 <;> rfl
 ·cases YK (yh7 a.1) ks 0 <;> rfl
def y9c (q : List Int) (t : List y0) (l : List y9) (vs : List yc) (_ : Int) (_ : Unit) (step : Int) : Except (Option (Int × Int)) Unit :=
 if zX (Jb q t l vs step) (yq t) 0 < 0 then .ok () else .error (some (step, zX (Jb q t l vs step) (yq t) 0))
def y3B (t : List y0) (l : List y9) (vs : List yc) : Int × Int :=
 if zX (ylS (yq t) l vs) l 0 < 0 then (0, 0) else (4, zX (ylS (yq t) l vs) l 0)
def yb0 (q : List Int) (t : List y0) (l : List y9) (cs : List y8) (vs : List yc) (z : Int) : Option (Int × Int) :=
 if yn q t l cs vs z = true then y8O (y9c q t l vs) (fun _ => some (y3B t l vs)) ([1, 2, 3] : List Int) 0 () else some (0, 0)
theorem yxf (i : Int) (h0 : 0 ≤ i) (h1 : i < 3) : ([1, 2, 3] : List Int).getD i.toNat 0 = i + 1 := by
 have : i = 0 ∨ i = 1 ∨ i = 2 := by omega
 rcases this with rfl | rfl | rfl <;> rfl
theorem y9d (ht : TOk t) (hq : q.length ≤ 1048576) (hl : l.length ≤ 1048576) (hc : cs.length ≤ 1048576) (hv : vs.length ≤ 1048576) (hvn : ∀ v ∈ vs, ByteArray.size v.1 ≤ maxLen) : Js (q, t, l, cs, vs, z) = yb0 q t l cs vs z := by
 unfold Js yb0
 have hk := ht.keys
 have e : yN (q, t) = some (yq t) := YO q t (by have := ht.len; omega) ht.nodes ht.sum
 simp only [y0T q t l cs vs z ht hl hc hv hvn, e, Option.bind_some]
 cases hp : yn q t l cs vs z
 ·rfl
 have hpos : ∀ a ∈ l, 1 ≤ a.1 := by
  refine yh6 ?_
  unfold yn at hp
  simp only [Bool.and_eq_true] at hp
  exact hp.2.1
 simp only [Bool.not_true, cond_false, if_true]
 unfold qd
 refine y8P (step := ZX _ _) (fun i (_ : Unit) => (i + 1, q, t, l, cs, vs, z, yq t)) (y9c q t l vs) (fun _ => some (y3B t l vs)) 0 ([1, 2, 3] : List Int) (by decide) (fun _ _ => True) (fun again i s h0 h1 _ => ⟨?_, fun _ _ => trivial⟩) ?_ () trivial
 ·have h1' : i < 3 := h1
  rw [yxf i h0 h1']
  have hw : Go.IntKind.wrap .i64 (i + 1 + 1) = i + 1 + 1 := w64 (by omega) (by omega)
  unfold ZX y9c
  have hle : i + 1 ≤ 3 := by omega
  simp only [Bool.cond_eq_ite, decide_eq_true_eq, hle, if_true]
  unfold qc
  refine (YU (step := ZW _ _) (fun j => (i + 1, j, q, t, l, cs, vs, z, yq t)) (Jb q t l vs (i + 1)) (fun j => some (i + 1, j)) (again (i + 1 + 1, q, t, l, cs, vs, z, yq t)) yL (yq t) (by omega) ?_ ?_).trans ?_
  ·intro again' j j0 j1
   have hwj : Go.IntKind.wrap .i64 (j + 1) = j + 1 := w64 (by omega) (by omega)
   unfold ZW
   obtain ⟨⟨x1, x2, x3, x4, x5⟩, hx⟩ : ∃ x, y6 (yq t) j = x := ⟨_, rfl⟩
   have hx' : (yq t).getD j.toNat yL = (x1, x2, x3, x4, x5) := hx
   rw [hx']
   simp only [Bool.cond_eq_ite, decide_eq_true_eq, j0, j1, if_true, hwj, hx, y4B q t l cs vs z ht hq hl hv hpos (i + 1) x1 x2 x3 x4 x5, Option.bind_some]
  ·intro again' j hj
   unfold ZW
   simp only [Bool.cond_eq_ite, decide_eq_true_eq, if_neg hj, hw]
  ·split <;> rfl
 ·intro again i s hi
  have hi' : ¬ i < 3 := hi
  have hle : ¬ i + 1 ≤ 3 := by omega
  unfold ZX
  simp only [Bool.cond_eq_ite, decide_eq_true_eq, if_neg hle]
  unfold Vs y3B
  refine (YU (step := Zs _ _) (fun j => (j, q, t, l, cs, vs, z)) (ylS (yq t) l vs) (fun j => some (4, j)) (some (0, 0)) zc l (by omega) ?_ ?_).trans ?_
  ·intro again' j j0 j1
   have hwj : Go.IntKind.wrap .i64 (j + 1) = j + 1 := w64 (by omega) (by omega)
   unfold Zs
   have hx : l.getD j.toNat zc = yM l j := rfl
   rw [hx]
   simp only [Bool.cond_eq_ite, decide_eq_true_eq, j0, j1, if_true, hwj, yaZ q t l cs vs z ht hl hv (yM l j), Option.bind_some]
  ·intro again' j hj
   unfold Zs
   simp only [Bool.cond_eq_ite, decide_eq_true_eq, if_neg hj]
  ·split <;> rfl
theorem y9e {S A R : Type} (g : Int → S → A → Except (Option R) S) (k : S → Option R) (hg : ∀ i s a r, g i s a = .error r → ∃ x, r = some x) (hk : ∀ s, ∃ x, k s = some x) : ∀ (l : List A) (i : Int) (s : S), ∃ x, y8O g k l i s = some x
 | [], i, s => hk s
 | a :: l, i, s => by
  rw [y8O]
  cases h : g i s a with
  | error r => exact hg i s a r h
  | ok s' => exact y9e g k hg hk l (i + 1) s'
theorem ydm : ∃ r, yb0 q t l cs vs z = some r := by
 unfold yb0
 split
 ·refine y9e _ _ (fun i s a r h => ?_) (fun s => ⟨_, rfl⟩) _ _ _
  unfold y9c at h
  split at h
  ·cases h
  ·injection h with h
   exact ⟨_, h.symm⟩
 ·exact ⟨_, rfl⟩
end
end Go.Proofs.YtgediecndaheiaaGreat.Pl
namespace Go.Proofs.YtgediecndaheiaaGreat.Pl
open Go.Proofs.YtgediecndaheiaaGreat.R Go.Proofs.YtgediecndaheiaaGreat.XS
structure SP (q : List yd) (t : List y0) (l : List y9) (cs : List y8) (vs : List yc) : Prop where
 S : small q t l cs vs
 N : ∀ v ∈ vs, ByteArray.size v.1 ≤ maxLen
structure TQ (q : List yd) (t : List y0) : Prop where
 T : TOk t
 Q : ∀ n ∈ t, y35 n
 q : q.length ≤ 1048576
theorem SP.tq {q : List yd} {t : List y0} {l : List y9} {cs : List y8} {vs : List yc} (h : SP q t l cs vs) : TQ q t :=
 ⟨⟨h.S.2.1, fun n hn => by have := (ve h.S.2.2.1 hn).1; omega, h.S.2.2.1⟩, fun n hn => ve h.S.2.2.1 hn, h.S.1⟩
theorem TQ.sp {q q' : List yd} {t t' : List y0} {l l' : List y9} {cs cs' : List y8} {vs : List yc} (h : TQ q' t') (h2 : SP q t l cs vs) (hl : l'.length ≤ 1048576) (hc : cs'.length ≤ 1048576) : SP q' t' l' cs' vs :=
 ⟨⟨h.q, h.T.len, h.T.sum, hl, hc, h2.S.2.2.2.2.2⟩, h2.N⟩
theorem TS.tq {q : List yd} {t : List y0} (h : TS t) (hq : q.length ≤ 1048576) : TQ q t := ⟨h.ok, fun n hn => (h.node n hn).q, hq⟩
theorem Ka {q : List yd} {t : List y0} (k : y7) (h : TQ q t) : TQ (yx q t k).1 (yx q t k).2.1 := by
 unfold yx
 split
 ·rename_i hh
  rw [Bool.and_eq_true] at hh
  split
  ·rename_i hj
   have hT := y1T hj
   have := (JQ hj)
   exact hT.tq (by simp only; omega)
  ·exact h
 ·exact h
def y2r (k : y7) : y7 := (k.1, k.2.1, 0, 0, 0)
def JT (q : List yd) (t : List y0) (cs : List y8) (k : y7) : List y8 := if (Za q t k.1 k.2.1).2.2.2.2.2 = true ∧ (Za q t k.1 k.2.1).2.2.1 = 1 then y36 cs (Za q t k.1 k.2.1).2.2.2.1 else cs
theorem qR (q : List yd) (t : List y0) (cs : List y8) (k : y7) : (JT q t cs k).length = cs.length := by
 unfold JT
 split
 ·exact y4A _ _
 ·rfl
abbrev PO : Type := List yd × List y0 × List y9 × List y8 × List yc × Int
section
variable (q : List yd) (t : List y0) (l : List y9) (cs : List y8) (vs : List yc) (z : Int)
def JU (t : List y0) (i : Int) : y7 := (yq t).getD i.toNat yL
def Jc (step i : Int) : PO × Bool :=
 if step = 1 ∨ step = 2 then (((yx q t (y2r (JU t i))).1, (yx q t (y2r (JU t i))).2.1, l, JT q t cs (JU t i), vs, z), (yx q t (y2r (JU t i))).2.2)
 else if step = 3 then
  (((yx (yx q t (y2r (JU t i))).1 (yx q t (y2r (JU t i))).2.1 ((JU t i).1, (Yj l (JU t i).2.1).getD 0 0, (JU t i).2.2)).1,
   (yx (yx q t (y2r (JU t i))).1 (yx q t (y2r (JU t i))).2.1 ((JU t i).1, (Yj l (JU t i).2.1).getD 0 0, (JU t i).2.2)).2.1, l, cs, vs, z),
   (yx q t (y2r (JU t i))).2.2 && (yx (yx q t (y2r (JU t i))).1 (yx q t (y2r (JU t i))).2.1 ((JU t i).1, (Yj l (JU t i).2.1).getD 0 0, (JU t i).2.2)).2.2)
 else ((q, t, (y4z l (l.getD i.toNat zc).1).1, cs, vs, z), (y4z l (l.getD i.toNat zc).1).2)
noncomputable def yb1 (p : PO) : Bool := yn p.1 p.2.1 p.2.2.1 p.2.2.2.1 p.2.2.2.2.1 p.2.2.2.2.2
noncomputable def ydz (p : PO) (r : PO × Bool) : PO × Bool := if (r.2 && yb1 r.1) = true then (r.1, true) else (p, false)
noncomputable def y4C : PO × Bool := match yb0 q t l cs vs z with
 | some (step, i) => if step = 0 then ((q, t, l, cs, vs, z), false) else ydz (q, t, l, cs, vs, z) (Jc q t l cs vs z step i)
 | none => ((q, t, l, cs, vs, z), false)
def ydn (r : PO × Bool) : List yd × List y0 × List y9 × List y8 × List yc × Int × Bool := (r.1.1, r.1.2.1, r.1.2.2.1, r.1.2.2.2.1, r.1.2.2.2.2.1, r.1.2.2.2.2.2, r.2)
theorem ydo {step i : Int} (h : yb0 q t l cs vs z = some (step, i)) : step = 0 ∨ ((step = 1 ∨ step = 2 ∨ step = 3) ∧ 0 ≤ i ∧ i < ((yq t).length : Int) ∧ Jb q t l vs step (JU t i) = true) ∨ (step = 4 ∧ 0 ≤ i ∧ i < (l.length : Int)) := by
 have hfind : ∀ s, (s = 1 ∨ s = 2 ∨ s = 3) → ¬ zX (Jb q t l vs s) (yq t) 0 < 0 → (step, i) = (s, zX (Jb q t l vs s) (yq t) 0) → step = 0 ∨ ((step = 1 ∨ step = 2 ∨ step = 3) ∧ 0 ≤ i ∧ i < ((yq t).length : Int) ∧ Jb q t l vs step (JU t i) = true) ∨ (step = 4 ∧ 0 ≤ i ∧ i < (l.length : Int)) := by
  intro s hs h0 he
  injection he with h1 h2
  subst h1 h2
  rcases YJ (Jb q t l vs step) yL (yq t) 0 (Int.le_refl _) with h | ⟨h1, h2, h3⟩
  ·omega
  ·rw [Int.sub_zero] at h3
   exact .inr (.inl ⟨hs, h1, by omega, h3⟩)
 unfold yb0 at h
 split at h
 ·simp only [y8O, y9c] at h
  by_cases h1 : zX (Jb q t l vs 1) (yq t) 0 < 0
  ·simp only [if_pos h1] at h
   by_cases h2 : zX (Jb q t l vs 2) (yq t) 0 < 0
   ·simp only [if_pos h2] at h
    by_cases h3 : zX (Jb q t l vs 3) (yq t) 0 < 0
    ·simp only [if_pos h3] at h
     injection h with h
     unfold y3B at h
     split at h
     ·injection h with h4 h5
      exact .inl h4.symm
     ·rename_i h4
      injection h with h5 h6
      rcases y3A (ylS (yq t) l vs) l 0 with h | ⟨h7, h8⟩
      ·omega
      ·exact .inr (.inr ⟨h5.symm, by omega, by omega⟩)
    ·simp only [if_neg h3] at h
     injection h with h
     exact hfind 3 (by simp) h3 h.symm
   ·simp only [if_neg h2] at h
    injection h with h
    exact hfind 2 (by simp) h2 h.symm
  ·simp only [if_neg h1] at h
   injection h with h
   exact hfind 1 (by simp) h1 h.symm
 ·injection h with h
  injection h with h1 h2
  exact .inl h1.symm
variable {q t l cs vs} (h : SP q t l cs vs)
include h
theorem yfa (step i : Int) : SP (Jc q t l cs vs z step i).1.1 (Jc q t l cs vs z step i).1.2.1 (Jc q t l cs vs z step i).1.2.2.1 (Jc q t l cs vs z step i).1.2.2.2.1 (Jc q t l cs vs z step i).1.2.2.2.2.1 := by
 have hl := h.S.2.2.2.1
 have hc := h.S.2.2.2.2.1
 unfold Jc
 split
 ·exact (Ka _ h.tq).sp h hl (by rw [qR]; exact hc)
 ·split
  ·exact (Ka _ (Ka _ h.tq)).sp h hl hc
  ·refine h.tq.sp h ?_ hc
   unfold y4z
   split
   ·exact hl
   ·split
    ·unfold yAk
     exact Nat.le_trans (List.length_eraseIdx_le _ _) (by simpa using hl)
    ·exact hl
theorem y9f (a b c d e : Int) : ZL (q, t, l, cs, vs, z, a, b, c, d, e) = some (if (yx q t (a, b, 0, 0, 0)).2.2 = true then (true, (yx q t (a, b, 0, 0, 0)).1, (yx q t (a, b, 0, 0, 0)).2.1, l, JT q t cs (a, b, c, d, e), vs, z) else (false, q, t, l, cs, vs, z)) := by
 have hq := h.tq
 unfold ZL zx
 simp only [Kr q t a b hq.T hq.q, JS q t a b 0 0 0 hq.T hq.Q hq.q, Option.bind_some]
 cases hr : (yx q t (a, b, 0, 0, 0)).2.2 with
 | false => rfl
 | true =>
  unfold wB JT
  simp only [Bool.not_true, cond_false, if_true, KV cs _ h.S.2.2.2.2.1, Option.bind_some]
  cases (Za q t a b).2.2.2.2.2 with
  | false => rfl
  | true =>
   by_cases h1 : (Za q t a b).2.2.1 = 1
   ·rw [if_pos ⟨rfl, h1⟩]
    simp only [h1, cond_true, Option.bind_some, beq_self_eq_true]
   ·rw [if_neg fun hh => h1 hh.2]
    simp only [cond_true, Option.bind_some, beq_eq_false_iff_ne.2 h1, cond_false]
theorem Z1 : yH (q, t, l, cs, vs, z) = some (yn q t l cs vs z) := y0T q t l cs vs z h.tq.T h.S.2.2.2.1 h.S.2.2.2.2.1 h.S.2.2.2.2.2 h.N
theorem ZO : Yy (q, t, l, cs, vs, z) = some (yn q t l cs vs z) := y5a q t l cs vs z h.tq.T h.S.2.2.2.1 h.S.2.2.2.2.1 h.S.2.2.2.2.2 h.N
end
end Go.Proofs.YtgediecndaheiaaGreat.Pl
namespace Go.Proofs.YtgediecndaheiaaGreat.Pl
open Go.Proofs.YtgediecndaheiaaGreat.R Go.Proofs.YtgediecndaheiaaGreat.XS
theorem yh8 : (((0 : Int)) == 0) = true := rfl
theorem yh9 : (((0 : Int)) == 1) = false := rfl
theorem yha : (((0 : Int)) == 2) = false := rfl
theorem yhb : (((0 : Int)) == 3) = false := rfl
theorem yhc : (((0 : Int)) == 4) = false := rfl
theorem yhd : (((1 : Int)) == 0) = false := rfl
theorem yhe : (((1 : Int)) == 1) = true := rfl
theorem yhf : (((1 : Int)) == 2) = false := rfl
theorem yhg : (((1 : Int)) == 3) = false := rfl
theorem yhh : (((1 : Int)) == 4) = false := rfl
theorem yhi : (((2 : Int)) == 0) = false := rfl
theorem yhj : (((2 : Int)) == 1) = false := rfl
theorem yhk : (((2 : Int)) == 2) = true := rfl
theorem yhl : (((2 : Int)) == 3) = false := rfl
theorem yhm : (((2 : Int)) == 4) = false := rfl
theorem yhn : (((3 : Int)) == 0) = false := rfl
theorem yho : (((3 : Int)) == 1) = false := rfl
theorem yhp : (((3 : Int)) == 2) = false := rfl
theorem yhq : (((3 : Int)) == 3) = true := rfl
theorem yhr : (((3 : Int)) == 4) = false := rfl
theorem yhs : (((4 : Int)) == 0) = false := rfl
theorem yht : (((4 : Int)) == 1) = false := rfl
theorem yhu : (((4 : Int)) == 2) = false := rfl
theorem yhv : (((4 : Int)) == 3) = false := rfl
theorem yhw : (((4 : Int)) == 4) = true := rfl
theorem ysn : (((0 : Int)) != 0) = false := rfl
theorem ycg : (((0 : Int)) != 3) = true := rfl
theorem yso : (((1 : Int)) != 0) = true := rfl
theorem ych : (((1 : Int)) != 3) = true := rfl
theorem ysp : (((2 : Int)) != 0) = true := rfl
theorem yci : (((2 : Int)) != 3) = true := rfl
theorem ysq : (((3 : Int)) != 0) = true := rfl
theorem ycj : (((3 : Int)) != 3) = false := rfl
theorem ysr : (((4 : Int)) != 0) = true := rfl
theorem yck : (((4 : Int)) != 3) = true := rfl
section
variable {q : List yd} {t : List y0} {l : List y9} {cs : List y8} {vs : List yc} (z : Int) (h : SP q t l cs vs)
theorem y7O {q' : List yd} {t' : List y0} {l' : List y9} {cs' : List y8} (ok : Bool) (h' : SP q' t' l' cs' vs) : (Option.bind (bif (!ok) then some true else Option.bind (yH (q', t', l', cs', vs, z)) fun r6 => some (!r6)) fun u5 => bif u5 then some (q, t, l, cs, vs, z, false) else some (q', t', l', cs', vs, z, true)) = some (ydn (ydz (q, t, l, cs, vs, z) ((q', t', l', cs', vs, z), ok))) := by
 rw [Z1 z h']
 unfold ydz yb1 ydn
 cases ok with
 | false => rfl
 | true =>
  simp only [Option.bind_some, Bool.not_true, cond_false, Bool.true_and]
  cases yn q' t' l' cs' vs z <;> rfl
include h
theorem qu : zq (q, t, l, cs, vs, z) = some (ydn (y4C q t l cs vs z)) := by
 have hq := h.tq
 have hl := h.S.2.2.2.1
 have hc := h.S.2.2.2.2.1
 have hv := h.S.2.2.2.2.2
 obtain ⟨⟨step, i⟩, hn⟩ := ydm q t l cs vs z
 have eK : yN (q, t) = some (yq t) := YO q t (by have := hq.T.len; omega) hq.T.nodes hq.T.sum
 unfold zq
 simp only [kt q t l cs vs z h.S, y9d q t l cs vs z hq.T hq.q hl hc hv h.N, hn, eK, Option.bind_some]
 have hp : y4C q t l cs vs z = if step = 0 then ((q, t, l, cs, vs, z), false) else ydz (q, t, l, cs, vs, z) (Jc q t l cs vs z step i) := by
  unfold y4C
  rw [hn]
 have erd : y6 (yq t) i = JU t i := rfl
 have h12 : ∀ s : Int, s = 1 ∨ s = 2 → (Option.bind (ZL (q, t, l, cs, vs, z, (JU t i).1, (JU t i).2.1, (JU t i).2.2.1, (JU t i).2.2.2.1, (JU t i).2.2.2.2)) fun r4 => Option.bind (bif (!r4.1) then some true else Option.bind (yH (r4.2.1, r4.2.2.1, r4.2.2.2.1, r4.2.2.2.2.1, r4.2.2.2.2.2.1, r4.2.2.2.2.2.2)) fun r6 => some (!r6)) fun u5 => bif u5 then some (q, t, l, cs, vs, z, false) else some (r4.2.1, r4.2.2.1, r4.2.2.2.1, r4.2.2.2.2.1, r4.2.2.2.2.2.1, r4.2.2.2.2.2.2, true)) = some (ydn (ydz (q, t, l, cs, vs, z) (Jc q t l cs vs z s i))) := by
  intro s hs
  have hT := yfa z h s i
  unfold Jc at hT ⊢
  rw [if_pos hs] at hT ⊢
  rw [y9f z h]
  change Option.bind (some (if (yx q t (y2r (JU t i))).2.2 = true then _ else _)) _ = _
  cases hr : (yx q t (y2r (JU t i))).2.2 with
  | false => rfl
  | true => exact y7O z true hT
 rcases ydo q t l cs vs z hn with rfl | ⟨hs, i0, i1, hk⟩ | ⟨rfl, i0, i1⟩
 ·rw [hp, if_pos rfl]
  rfl
 ·rcases hs with rfl | rfl | rfl
  ·rw [hp, if_neg (show ¬ ((1 : Int) = 0) by decide)]
   simp only [yh8, yh9, yha, yhb, yhc, yhd, yhe, yhf, yhg, yhh, yhi, yhj, yhk, yhl, yhm, yhn, yho, yhp, yhq, yhr, yhs, yht, yhu, yhv, yhw, ysn, ycg, yso, ych, ysp, yci, ysq, ycj, ysr, yck, cond_true, cond_false, erd]
   rw [if_pos i0, if_pos i1]
   exact h12 1 (.inl rfl)
  ·rw [hp, if_neg (show ¬ ((2 : Int) = 0) by decide)]
   simp only [yh8, yh9, yha, yhb, yhc, yhd, yhe, yhf, yhg, yhh, yhi, yhj, yhk, yhl, yhm, yhn, yho, yhp, yhq, yhr, yhs, yht, yhu, yhv, yhw, ysn, ycg, yso, ych, ysp, yci, ysq, ycj, ysr, yck, cond_true, cond_false, erd]
   rw [if_pos i0, if_pos i1]
   exact h12 2 (.inr rfl)
  ·rw [hp, if_neg (show ¬ ((3 : Int) = 0) by decide)]
   have hT := yfa z h 3 i
   unfold Jc at hT ⊢
   rw [if_neg (show ¬ ((3 : Int) = 1 ∨ (3 : Int) = 2) by decide), if_pos (show (3 : Int) = 3 from rfl)] at hT ⊢
   simp only [yh8, yh9, yha, yhb, yhc, yhd, yhe, yhf, yhg, yhh, yhi, yhj, yhk, yhl, yhm, yhn, yho, yhp, yhq, yhr, yhs, yht, yhu, yhv, yhw, ysn, ycg, yso, ych, ysp, yci, ysq, ycj, ysr, yck, cond_true, cond_false, erd]
   rw [if_pos i0, if_pos i1]
   obtain ⟨⟨a, b, c, d, e⟩, hx⟩ : ∃ x, JU t i = x := ⟨_, rfl⟩
   rw [hx] at hk hT ⊢
   have h1 := Ka (a, b, 0, 0, 0) hq
   have hone : y95 vs b = true ∧ ((Yj l b).length : Int) = 1 := by
    unfold Jb yf9 at hk
    rw [if_neg (show ¬ (3 : Int) = 1 by decide), if_neg (show ¬ (3 : Int) = 2 by decide)] at hk
    simp only [Bool.and_eq_true, beq_iff_eq] at hk
    exact hk.1
   have eKid : Zr (q, t, l, cs, vs, z, b) = some ((Yj l b).getD 0 0) := by
    unfold Zr
    simp only [Kq l b hl, y09 q t l cs vs z b hv, hone.1, Bool.not_true, cond_false, Option.bind_some]
    rw [show (((List.length (Yj l b) : Nat) : Int) != 1) = false by rw [hone.2]; rfl, cond_false, if_pos (by omega), if_pos (by omega)]
    rfl
   simp only [y2r] at hT ⊢
   simp only [JS q t a b 0 0 0 hq.T hq.Q hq.q, eKid, Option.bind_some]
   rw [JS _ _ a ((Yj l b).getD 0 0) c d e h1.T h1.Q h1.q]
   simp only [Option.bind_some]
   cases (yx q t (a, b, 0, 0, 0)).2.2 with
   | false => rfl
   | true =>
    simp only [cond_true, Option.bind_some, Bool.true_and]
    exact y7O z _ hT
 ·rw [hp, if_neg (show ¬ ((4 : Int) = 0) by decide)]
  have hT := yfa z h 4 i
  unfold Jc at hT ⊢
  rw [if_neg (show ¬ ((4 : Int) = 1 ∨ (4 : Int) = 2) by decide), if_neg (show ¬ (4 : Int) = 3 by decide)] at hT ⊢
  simp only [yh8, yh9, yha, yhb, yhc, yhd, yhe, yhf, yhg, yhh, yhi, yhj, yhk, yhl, yhm, yhn, yho, yhp, yhq, yhr, yhs, yht, yhu, yhv, yhw, ysn, ycg, yso, ych, ysp, yci, ysq, ycj, ysr, yck, cond_true, cond_false]
  rw [if_pos i0, if_pos i1, y5f l _ hl]
  simp only [Option.bind_some]
  exact y7O z _ hT
end
end Go.Proofs.YtgediecndaheiaaGreat.Pl
namespace Go.Proofs.YtgediecndaheiaaGreat.Pl
open Go.Proofs.YtgediecndaheiaaGreat.R Go.Proofs.YtgediecndaheiaaGreat.XS
def Wj (c : List Int) (p : Int) : Prop := c.length ≤ 1099511627776 ∧ 0 ≤ p ∧ p ≤ c.length
def y9g {A : Type} (o : Option (A × List Int × Int × Int)) (c : List Int) (Q : A → Prop) : Prop := ∃ v p s, o = some (v, c, p, s) ∧ Wj c p ∧ Q v
theorem yb2 (c : List Int) (p s : Int) (h : Wj c p) : y9g (Zi (c, p, s)) c (fun v => 0 ≤ v ∧ v < 256) := by
 obtain ⟨h1, h2, h3⟩ := h
 unfold Zi
 simp only [Bool.cond_eq_ite, decide_eq_true_eq, yrt]
 by_cases hp : p < (c.length : Int)
 ·rw [if_pos hp, if_pos h2, if_pos hp]
  refine ⟨_, _, _, rfl, ⟨h1, ?_, ?_⟩, by omega⟩
  ·rw [w64 (by omega) (by omega)]
   omega
  ·rw [w64 (by omega) (by omega)]
   omega
 ·rw [if_neg hp]
  exact ⟨_, _, _, rfl, ⟨h1, h2, h3⟩, by omega⟩
theorem vb (c : List Int) (p s n : Int) (h : Wj c p) : y9g (yt (c, p, s, n)) c (fun v => 0 ≤ v ∧ (0 < n → v < n)) := by
 unfold yt
 simp only [Bool.cond_eq_ite, decide_eq_true_eq]
 by_cases hn : n ≤ 0
 ·rw [if_pos hn]
  exact ⟨_, _, _, rfl, h, Int.le_refl _, fun hh => by omega⟩
 ·rw [if_neg hn]
  obtain ⟨v1, p1, s1, e1, h1, q1⟩ := yb2 c p s h
  obtain ⟨v2, p2, s2, e2, h2, q2⟩ := yb2 c p1 s1 h1
  obtain ⟨v3, p3, s3, e3, h3, q3⟩ := yb2 c p2 s2 h2
  rw [e1]
  simp only [Option.bind_some]
  have mod : ∀ v : Int, 0 ≤ v → 0 ≤ Int.tmod v n ∧ (0 < n → Int.tmod v n < n) := fun v hv => by
   rw [Int.tmod_eq_emod_of_nonneg hv]
   exact ⟨Int.emod_nonneg _ (by omega), fun hh => Int.emod_lt_of_pos _ hh⟩
  by_cases h6 : n ≤ 256
  ·rw [if_pos h6, if_neg (by omega)]
   exact ⟨_, _, _, rfl, h1, mod _ q1.1⟩
  ·rw [if_neg h6, e2]
   simp only [Option.bind_some]
   rw [e3]
   simp only [Option.bind_some]
   rw [if_neg (by omega)]
   rw [w64 (n := v1 * 65536) (by omega) (by omega), w64 (n := v2 * 256) (by omega) (by omega), w64 (n := v1 * 65536 + v2 * 256) (by omega) (by omega), w64 (n := v1 * 65536 + v2 * 256 + v3) (by omega) (by omega)]
   exact ⟨_, _, _, rfl, h3, mod _ (by omega)⟩
theorem y4D (c : List Int) (p s : Int) (L : List Int) (hL : 0 < L.length) (hL2 : L.length ≤ 1048576) (h : Wj c p) : y9g (ze (c, p, s, L)) c (fun v => v ∈ L) := by
 obtain ⟨v, p1, s1, e1, h1, q1⟩ := vb c p s (L.length : Int) h
 have := q1.2 (by omega)
 unfold ze
 rw [e1]
 simp only [Option.bind_some]
 rw [if_pos q1.1, if_pos this]
 exact ⟨_, _, _, rfl, h1, yI y2f L v q1.1 this⟩
theorem yrv (c : List Int) (hc : c.length ≤ 1099511627776) : ∃ s, Vo c = some (c, 0, s) := by
 have key := jV (step := Kg (fun x2 : List Int × Int => some (x2.1, (0 : Int), x2.2))) (fun t : List Int × Int × Int => c.length - t.2.2.toNat) (fun t => t.1 = c ∧ 0 ≤ t.2.2 ∧ t.2.2 ≤ c.length) (fun _ res => ∃ s, res = some (c, 0, s)) ?_ (c, (Go.IntKind.wrap .i64 ((941941 : Int) + ((List.length c : Nat) : Int))), (0 : Int)) ⟨rfl, Int.le_refl _, by simp⟩ (by simp; omega)
 ·exact key
 ·rintro again ⟨c', s, i⟩ ⟨rfl, h0, h1⟩ hag
  simp only at h0 h1
  unfold Kg
  simp only [Bool.cond_eq_ite, decide_eq_true_eq]
  by_cases hi : i < (c'.length : Int)
  ·rw [if_pos hi]
   simp only [Option.bind_some, decide_eq_true_eq]
   by_cases h4 : i < 4000
   ·rw [if_pos h4, if_pos h0, if_pos hi]
    have hw : Go.IntKind.wrap .i64 (i + 1) = i + 1 := w64 (by omega) (by omega)
    rw [hw]
    exact hag _ ⟨rfl, by simp only; omega, by simp only; omega⟩ (by simp only; omega)
   ·rw [if_neg h4]
    exact ⟨_, rfl⟩
  ·rw [if_neg hi]
   exact ⟨_, rfl⟩
end Go.Proofs.YtgediecndaheiaaGreat.Pl
namespace Go.Proofs.YtgediecndaheiaaGreat.Pl
open Go.Proofs.YtgediecndaheiaaGreat.R Go.Proofs.YtgediecndaheiaaGreat.XS
theorem yxg (l : List Int) (i : Int) : ygk l i = by_ l i := rfl
theorem yrw {l : List Int} (h : isBytes l) (i : Int) : Go.IntKind.wrap .i64 (by_ l i) = by_ l i := by
 have := ybV h i
 exact w64 (by omega) (by omega)
end Go.Proofs.YtgediecndaheiaaGreat.Pl
namespace Go.Proofs.YtgediecndaheiaaGreat.Pl
open Go.Proofs.YtgediecndaheiaaGreat.R Go.Proofs.YtgediecndaheiaaGreat.XS
def w2 (l : List Int) (i : Int) : Int := by_ l i * 256 + by_ l (i + 1)
end Go.Proofs.YtgediecndaheiaaGreat.Pl
namespace Go.Proofs.YtgediecndaheiaaGreat.Pl
open Go.Proofs.YtgediecndaheiaaGreat.R Go.Proofs.YtgediecndaheiaaGreat.XS
end Go.Proofs.YtgediecndaheiaaGreat.Pl
namespace Go.Proofs.YtgediecndaheiaaGreat.Pl
open Go.Proofs.YtgediecndaheiaaGreat.R Go.Proofs.YtgediecndaheiaaGreat.XS
end Go.Proofs.YtgediecndaheiaaGreat.Pl
namespace Go.Proofs.YtgediecndaheiaaGreat.Pl
open Go.Proofs.YtgediecndaheiaaGreat.R Go.Proofs.YtgediecndaheiaaGreat.XS
theorem yCL (x : List Int) (hx : x.length ≤ 1099511627776) : Wj x 0 := ⟨hx, Int.le_refl _, by omega⟩
end Go.Proofs.YtgediecndaheiaaGreat.Pl
