/- Base, Loops, Marks, Rng, Pool, Keys, Tree, Seen, See, Whole, Walk, Oks, Trees, Names, PoolOk, PoolOk2, PoolOk3, Next, Calm, PutPool0. No condition. -/
import Derived.Test.YtmapoakbdgpamaaGreatDP1
import Derived.Laws.BitsLemmas
set_option linter.all false
namespace Go.Proofs.YtmapoakbdgpamaaGreat.Pl
open Go.Proofs.YtmapoakbdgpamaaGreat.R Go.Proofs.YtmapoakbdgpamaaGreat.XP
theorem ykr {T R : Type} {step : (T → Option R) → T → Option R} (μ : T → Nat) (inv : T → Prop) (G : T → Option R)
  (h : ∀ again t, inv t → (∀ t', inv t' → μ t' < μ t → again t' = G t') → step again t = G t) : ∀ (n : Nat) (t : T), inv t → μ t < n → zt step n t = G t := by
 intro n
 induction n with
 | zero => intro t _ hn; omega
 | succ n ih =>
  intro t ht hn
  rw [zt]
  exact h _ t ht fun t' ht' hlt => ih t' ht' (by omega)
theorem Yi {T R : Type} {step : (T → Option R) → T → Option R} (μ : T → Nat) (inv : T → Prop) (G : T → Option R)
  (h : ∀ again t, inv t → (∀ t', inv t' → μ t' < μ t → again t' = G t') → step again t = G t) (t : T) (ht : inv t) (hn : μ t < 18446744073709551616) : zt step zJ t = G t :=
 ykr μ inv G h zJ t ht (by rw [y0n]; exact hn)
theorem w64 {n : Int} (h0 : -9223372036854775808 ≤ n) (h1 : n ≤ 9223372036854775807) : Go.IntKind.wrap .i64 n = n := by
 rw [IntKind.wrap_i64]
 omega
def inR (x a b : Int) : Bool := decide (a ≤ x) && decide (x ≤ b)
theorem k8 {x a b : Int} : inR x a b = true ↔ a ≤ x ∧ x ≤ b := by simp [inR]
end Go.Proofs.YtmapoakbdgpamaaGreat.Pl
namespace Go.Proofs.YtmapoakbdgpamaaGreat.Pl
open Go.Proofs.YtmapoakbdgpamaaGreat.R Go.Proofs.YtmapoakbdgpamaaGreat.XP
theorem y86 {T R : Type} {step : (T → Option R) → T → Option R} (μ : T → Nat) (inv : T → Prop) (Q : T → Option R → Prop)
  (h : ∀ again t, inv t → (∀ t', inv t' → μ t' < μ t → Q t' (again t')) → Q t (step again t)) (t : T) (ht : inv t) (hn : μ t < 18446744073709551616) : Q t (zt step zJ t) := by
 have key : ∀ (n : Nat) (t : T), inv t → μ t < n → Q t (zt step n t) := by
  intro n
  induction n with
  | zero => intro t _ hn; omega
  | succ n ih =>
   intro t ht hn
   rw [zt]
   exact h _ t ht fun t' ht' hlt => ih t' ht' (by omega)
 exact key zJ t ht (by rw [y0n]; exact hn)
theorem y6X {A : Type} (da : A) (l : List A) (i : Int) (h0 : 0 ≤ i) (h : i < l.length) : l.getD i.toNat da = l[i.toNat]'(by omega) := by
 rw [List.getD_eq_getElem?_getD, List.getElem?_eq_getElem (by omega)]
 rfl
theorem zj {A : Type} (da : A) (l : List A) (i : Int) (h0 : 0 ≤ i) (h : i < l.length) : l.getD i.toNat da ∈ l := by
 rw [y6X da l i h0 h]
 exact List.getElem_mem _
theorem Zm {A : Type} (da : A) (l : List A) (i : Int) (h0 : 0 ≤ i) (h : i < l.length) : l.drop i.toNat = l.getD i.toNat da :: l.drop (i + 1).toNat := by
 rw [y6X da l i h0 h, show (i + 1).toNat = i.toNat + 1 by omega, ← List.drop_eq_getElem_cons]
theorem vp {A R : Type} (da : A) {step : (List A × Int × List A → Option R) → List A × Int × List A → Option R} (k : List A → Option R) (l : List A) (hl : l.length ≤ 1099511627776)
  (h : ∀ again i o, 0 ≤ i → i < (l.length : Int) → o.length = l.length → step again (l, i, o) = again (l, i + 1, o.set i.toNat (l.getD i.toNat da)))
  (hd : ∀ again i o, ¬ i < (l.length : Int) → step again (l, i, o) = k o) (o : List A) (ho : o.length = l.length) : zt step zJ (l, 0, o) = k l := by
 rw [Yi (fun t : List A × Int × List A => t.1.length - t.2.1.toNat) (fun t => t.1 = l ∧ 0 ≤ t.2.1 ∧ t.2.1 ≤ l.length ∧ t.2.2.length = l.length) (fun t => k (t.2.2.take t.2.1.toNat ++ l.drop t.2.1.toNat)) ?_ (l, 0, o) ⟨rfl, by simp, by simp, ho⟩ (by simp; omega)]
 ·simp
 ·rintro again ⟨l', i, o⟩ ⟨rfl, h0, h1, hlen⟩ hag
  simp only at h0 h1 hlen hl ⊢
  by_cases hi : i < (l'.length : Int)
  ·rw [h again i o h0 hi hlen, hag (l', i + 1, _) ⟨rfl, by simp only; omega, by simp only; omega, by simpa using hlen⟩ (by simp only; omega), Zm da l' i h0 hi]
   have e1 : (i + 1).toNat = i.toNat + 1 := by omega
   have hn : i.toNat < o.length := by omega
   simp only [e1]
   rw [List.take_succ_eq_append_getElem (by simpa using hn), List.take_set_of_le (Nat.le_refl _)]
   simp
  ·have : i.toNat = l'.length := by omega
   rw [hd again i o hi, List.drop_of_length_le (by omega), List.take_of_length_le (by omega)]
   simp
theorem y0r {A R : Type} {step : (List A × List A × Int → Option R) → List A × List A × Int → Option R} (k : Unit → Option R) (l : List A) (hl : l.length ≤ 1099511627776)
  (h : ∀ again i, 0 ≤ i → i < (l.length : Int) → step again (l, l, i) = again (l, l, i + 1))
  (hd : ∀ again i, ¬ i < (l.length : Int) → step again (l, l, i) = k ()) : zt step zJ (l, l, 0) = k () := by
 rw [Yi (fun t : List A × List A × Int => t.1.length - t.2.2.toNat) (fun t => t.1 = l ∧ t.2.1 = l ∧ 0 ≤ t.2.2 ∧ t.2.2 ≤ l.length) (fun _ => k ()) ?_ (l, l, 0) ⟨rfl, rfl, by simp, by simp⟩ (by simp; omega)]
 rintro again ⟨a, b, i⟩ ⟨h1, h2, h0, h3⟩ hag
 simp only at h1 h2 h0 h3 ⊢
 subst h1 h2
 by_cases hi : i < (b.length : Int)
 ·rw [h again i h0 hi]
  exact hag (b, b, i + 1) ⟨rfl, rfl, by simp only; omega, by simp only; omega⟩ (by simp only; omega)
 ·exact hd again i hi
def JJ {A : Type} (w : A → Int) (l : List A) : Int := l.foldr (fun a s => w a + s) 0
theorem zR {A : Type} (w : A → Int) (a : A) (l : List A) : JJ w (a :: l) = w a + JJ w l := rfl
theorem QE {A : Type} {w : A → Int} (hw : ∀ a, 0 ≤ w a) : ∀ {l : List A} {a : A}, a ∈ l → w a ≤ JJ w l ∧ 0 ≤ JJ w l
 | b :: l, a, h => by
  have hs : 0 ≤ JJ w l := by
   clear h
   induction l with
   | nil => exact Int.le_refl _
   | cons c l ih => rw [zR]; have := hw c; omega
  rw [zR]
  have := hw b
  rcases List.mem_cons.1 h with rfl | h
  ·omega
  ·have := (QE hw h).1
   omega
theorem ZG {A : Type} {w : A → Int} (hw : ∀ a, 0 ≤ w a) (l : List A) : 0 ≤ JJ w l := by
 induction l with
 | nil => exact Int.le_refl _
 | cons c l ih => rw [zR]; have := hw c; omega
def ydM (n w : Int) (o : Option Int) : Prop := ∃ r, o = some r ∧ (r < 0 ∨ (0 ≤ r ∧ r = n - w))
theorem y9Z {A R : Type} (da : A) (w : A → Int) (f : A → Int → Option Int) {step : (List A × Int × Int → Option R) → List A × Int × Int → Option R} (k0 : Int × Int → Option R) (k1 : Int → Option R) (l : List A) (hl : l.length ≤ 1099511627776)
  (hw : ∀ a, 0 ≤ w a) (hf : ∀ a ∈ l, ∀ n, 0 ≤ n → n ≤ 1048576 → ydM n (w a) (f a n))
  (h : ∀ again n i r, 0 ≤ i → i < (l.length : Int) → f (l.getD i.toNat da) n = some r → step again (l, n, i) = if r < 0 then k0 (r, -1) else again (l, r, i + 1))
  (hd : ∀ again n i, ¬ i < (l.length : Int) → step again (l, n, i) = k1 n) (n : Int) (hn0 : 0 ≤ n) (hn1 : n ≤ 1048576) :
  (∃ r, zt step zJ (l, n, 0) = k0 (r, -1)) ∨ (∃ r, 0 ≤ r ∧ r = n - JJ w l ∧ zt step zJ (l, n, 0) = k1 r) := by
 have key := y86 (step := step) (fun t : List A × Int × Int => t.1.length - t.2.2.toNat) (fun t => t.1 = l ∧ 0 ≤ t.2.1 ∧ t.2.1 ≤ 1048576 ∧ 0 ≤ t.2.2 ∧ t.2.2 ≤ l.length)
  (fun t res => (∃ r, res = k0 (r, -1)) ∨ (∃ r, 0 ≤ r ∧ r = t.2.1 - JJ w (l.drop t.2.2.toNat) ∧ res = k1 r)) ?_ (l, n, 0) ⟨rfl, hn0, hn1, by simp, by simp⟩ (by simp; omega)
 ·simpa using key
 ·rintro again ⟨l', n, i⟩ ⟨rfl, a0, a1, h0, h1⟩ hag
  simp only at a0 a1 h0 h1 hl ⊢
  by_cases hi : i < (l'.length : Int)
  ·obtain ⟨r, hr, hc⟩ := hf _ (zj da l' i h0 hi) n a0 a1
   have := hw (l'.getD i.toNat da)
   rw [h again n i r h0 hi hr, Zm da l' i h0 hi, zR]
   rcases hc with hc | ⟨hc0, hc1⟩
   ·rw [if_pos hc]
    exact .inl ⟨r, rfl⟩
   ·rw [if_neg (by omega)]
    rcases hag (l', r, i + 1) ⟨rfl, hc0, by simp only; omega, by simp only; omega, by simp only; omega⟩ (by simp only; omega) with hh | ⟨r', q0, q1, q2⟩
    ·exact .inl hh
    ·exact .inr ⟨r', q0, by simp only at q1; omega, q2⟩
  ·rw [hd again n i hi, List.drop_of_length_le (by omega)]
   exact .inr ⟨n, a0, by simp [JJ], rfl⟩
end Go.Proofs.YtmapoakbdgpamaaGreat.Pl
namespace Go.Proofs.YtmapoakbdgpamaaGreat.Pl
open Go.Proofs.YtmapoakbdgpamaaGreat.R Go.Proofs.YtmapoakbdgpamaaGreat.XP
end Go.Proofs.YtmapoakbdgpamaaGreat.Pl
namespace Go.Proofs.YtmapoakbdgpamaaGreat.Pl
open Go.Proofs.YtmapoakbdgpamaaGreat.R Go.Proofs.YtmapoakbdgpamaaGreat.XP
theorem k9 (x a b : Int) : z3 (x, a, b) = some (inR x a b) := by
 unfold z3 inR
 by_cases h : x ≥ a <;> simp [h]
theorem ZY (x a b : Int) : yE (x, a, b) = some (inR x a b) := by
 unfold yE inR
 by_cases h : x ≥ a <;> simp [h]
end Go.Proofs.YtmapoakbdgpamaaGreat.Pl
namespace Go.Proofs.YtmapoakbdgpamaaGreat.Pl
open Go.Proofs.YtmapoakbdgpamaaGreat.R Go.Proofs.YtmapoakbdgpamaaGreat.XP
theorem ydN (l : List yh) (hl : l.length ≤ 1048576) : wu l = some l := by
 unfold wu qK
 rw [if_pos (by omega), if_pos (Int.le_refl _), if_pos (by omega)]
 refine vp yd2 (fun x => some x) l (by omega) ?_ ?_ _ (by simp)
 ·intro again i o h0 h1 h2
  unfold ws
  have hw : Go.IntKind.wrap .i64 (i + 1) = i + 1 := w64 (by omega) (by omega)
  have h3 : i < (o.length : Int) := by omega
  simp only [Bool.cond_eq_ite, decide_eq_true_eq, h0, h1, h3, if_true, hw, if_true, Option.bind_some]
  rfl
 ·intro again i o hi
  unfold ws
  simp only [Bool.cond_eq_ite, decide_eq_true_eq, if_neg hi]
theorem ydO (l : List y8) (hl : l.length ≤ 1048576) : Zw l = some l := by
 unfold Zw qL
 rw [if_pos (by omega), if_pos (Int.le_refl _), if_pos (by omega)]
 refine vp z0 (fun x => some x) l (by omega) ?_ ?_ _ (by simp)
 ·intro again i o h0 h1 h2
  unfold wv
  have hw : Go.IntKind.wrap .i64 (i + 1) = i + 1 := w64 (by omega) (by omega)
  have h3 : i < (o.length : Int) := by omega
  simp only [Bool.cond_eq_ite, decide_eq_true_eq, h0, h1, h3, if_true, hw, vF, Option.bind_some]
  rfl
 ·intro again i o hi
  unfold wv
  simp only [Bool.cond_eq_ite, decide_eq_true_eq, if_neg hi]
theorem ydP (l : List yf) (hl : l.length ≤ 1048576) : wx l = some l := by
 unfold wx qM
 rw [if_pos (by omega), if_pos (Int.le_refl _), if_pos (by omega)]
 refine vp Y1 (fun x => some x) l (by omega) ?_ ?_ _ (by simp)
 ·intro again i o h0 h1 h2
  unfold ww
  have hw : Go.IntKind.wrap .i64 (i + 1) = i + 1 := w64 (by omega) (by omega)
  have h3 : i < (o.length : Int) := by omega
  simp only [Bool.cond_eq_ite, decide_eq_true_eq, h0, h1, h3, if_true, hw, vG, Option.bind_some]
  rfl
 ·intro again i o hi
  unfold ww
  simp only [Bool.cond_eq_ite, decide_eq_true_eq, if_neg hi]
theorem yc0 (l : List yg) (hl : l.length ≤ 1048576) : Jr l = some l := by
 unfold Jr qd
 rw [if_pos (by omega), if_pos (Int.le_refl _), if_pos (by omega)]
 refine vp jq (fun x => some x) l (by omega) ?_ ?_ _ (by simp)
 ·intro again i o h0 h1 h2
  unfold JO
  have hw : Go.IntKind.wrap .i64 (i + 1) = i + 1 := w64 (by omega) (by omega)
  have h3 : i < (o.length : Int) := by omega
  simp only [Bool.cond_eq_ite, decide_eq_true_eq, h0, h1, h3, if_true, hw, Kc, Option.bind_some]
  rfl
 ·intro again i o hi
  unfold JO
  simp only [Bool.cond_eq_ite, decide_eq_true_eq, if_neg hi]
theorem ydQ (l : List yF) (hl : l.length ≤ 1048576) : wz l = some l := by
 unfold wz qN
 rw [if_pos (by omega), if_pos (Int.le_refl _), if_pos (by omega)]
 refine vp K8 (fun x => some x) l (by omega) ?_ ?_ _ (by simp)
 ·intro again i o h0 h1 h2
  unfold wy
  have hw : Go.IntKind.wrap .i64 (i + 1) = i + 1 := w64 (by omega) (by omega)
  have h3 : i < (o.length : Int) := by omega
  simp only [Bool.cond_eq_ite, decide_eq_true_eq, h0, h1, h3, if_true, hw, vH, Option.bind_some]
  rfl
 ·intro again i o hi
  unfold wy
  simp only [Bool.cond_eq_ite, decide_eq_true_eq, if_neg hi]
theorem yc1 (l : List y9) (hl : l.length ≤ 1048576) (hm : ∀ a ∈ l, Zw a = some a) : Jq l = some l := by
 unfold Jq qb
 rw [if_pos (by omega), if_pos (Int.le_refl _), if_pos (by omega)]
 refine vp yM (fun x => some x) l (by omega) ?_ ?_ _ (by simp)
 ·intro again i o h0 h1 h2
  unfold JM
  have hw : Go.IntKind.wrap .i64 (i + 1) = i + 1 := w64 (by omega) (by omega)
  have h3 : i < (o.length : Int) := by omega
  have e : Zw (qI l i) = some (qI l i) := hm _ (zj yM l i h0 h1)
  simp only [Bool.cond_eq_ite, decide_eq_true_eq, h0, h1, h3, if_true, hw, e, Option.bind_some]
  rfl
 ·intro again i o hi
  unfold JM
  simp only [Bool.cond_eq_ite, decide_eq_true_eq, if_neg hi]
theorem yc2 (l : List y7) (hl : l.length ≤ 1048576) (hm : ∀ a ∈ l, J0 a = some a) : j8 l = some l := by
 unfold j8 qc
 rw [if_pos (by omega), if_pos (Int.le_refl _), if_pos (by omega)]
 refine vp yr (fun x => some x) l (by omega) ?_ ?_ _ (by simp)
 ·intro again i o h0 h1 h2
  unfold JN
  have hw : Go.IntKind.wrap .i64 (i + 1) = i + 1 := w64 (by omega) (by omega)
  have h3 : i < (o.length : Int) := by omega
  have e : J0 (y0V l i) = some (y0V l i) := hm _ (zj yr l i h0 h1)
  simp only [Bool.cond_eq_ite, decide_eq_true_eq, h0, h1, h3, if_true, hw, e, Option.bind_some]
  rfl
 ·intro again i o hi
  unfold JN
  simp only [Bool.cond_eq_ite, decide_eq_true_eq, if_neg hi]
theorem ya0 (l : List yh) (hl : l.length ≤ 1048576) : wB (l, l) = some true := by
 unfold wB qO
 simp only [bne_self_eq_false, cond_false]
 refine y0r (fun _ => some true) l (by omega) ?_ ?_
 ·intro again i h0 h1
  unfold wA
  have hw : Go.IntKind.wrap .i64 (i + 1) = i + 1 := w64 (by omega) (by omega)
  simp only [Bool.cond_eq_ite, decide_eq_true_eq, h0, h1, if_true, hw, if_true, Option.bind_some, bne_self_eq_false, beq_self_eq_true, Bool.not_true, Bool.false_eq_true, if_false]
 ·intro again i hi
  unfold wA
  simp only [Bool.cond_eq_ite, decide_eq_true_eq, if_neg hi]
theorem ya1 (l : List y8) (hl : l.length ≤ 1048576) : Zz (l, l) = some true := by
 unfold Zz qP
 simp only [bne_self_eq_false, cond_false]
 refine y0r (fun _ => some true) l (by omega) ?_ ?_
 ·intro again i h0 h1
  unfold wC
  have hw : Go.IntKind.wrap .i64 (i + 1) = i + 1 := w64 (by omega) (by omega)
  simp only [Bool.cond_eq_ite, decide_eq_true_eq, h0, h1, if_true, hw, vJ, Option.bind_some, bne_self_eq_false, beq_self_eq_true, Bool.not_true, Bool.false_eq_true, if_false]
 ·intro again i hi
  unfold wC
  simp only [Bool.cond_eq_ite, decide_eq_true_eq, if_neg hi]
theorem ya2 (l : List yf) (hl : l.length ≤ 1048576) : wE (l, l) = some true := by
 unfold wE qQ
 simp only [bne_self_eq_false, cond_false]
 refine y0r (fun _ => some true) l (by omega) ?_ ?_
 ·intro again i h0 h1
  unfold wD
  have hw : Go.IntKind.wrap .i64 (i + 1) = i + 1 := w64 (by omega) (by omega)
  simp only [Bool.cond_eq_ite, decide_eq_true_eq, h0, h1, if_true, hw, vK, Option.bind_some, bne_self_eq_false, beq_self_eq_true, Bool.not_true, Bool.false_eq_true, if_false]
 ·intro again i hi
  unfold wD
  simp only [Bool.cond_eq_ite, decide_eq_true_eq, if_neg hi]
theorem y87 (l : List yg) (hl : l.length ≤ 1048576) : Jt (l, l) = some true := by
 unfold Jt qg
 simp only [bne_self_eq_false, cond_false]
 refine y0r (fun _ => some true) l (by omega) ?_ ?_
 ·intro again i h0 h1
  unfold JR
  have hw : Go.IntKind.wrap .i64 (i + 1) = i + 1 := w64 (by omega) (by omega)
  simp only [Bool.cond_eq_ite, decide_eq_true_eq, h0, h1, if_true, hw, Ke, Option.bind_some, bne_self_eq_false, beq_self_eq_true, Bool.not_true, Bool.false_eq_true, if_false]
 ·intro again i hi
  unfold JR
  simp only [Bool.cond_eq_ite, decide_eq_true_eq, if_neg hi]
theorem ya3 (l : List yF) (hl : l.length ≤ 1048576) : wG (l, l) = some true := by
 unfold wG qR
 simp only [bne_self_eq_false, cond_false]
 refine y0r (fun _ => some true) l (by omega) ?_ ?_
 ·intro again i h0 h1
  unfold wF
  have hw : Go.IntKind.wrap .i64 (i + 1) = i + 1 := w64 (by omega) (by omega)
  simp only [Bool.cond_eq_ite, decide_eq_true_eq, h0, h1, if_true, hw, vL, Option.bind_some, bne_self_eq_false, beq_self_eq_true, Bool.not_true, Bool.false_eq_true, if_false]
 ·intro again i hi
  unfold wF
  simp only [Bool.cond_eq_ite, decide_eq_true_eq, if_neg hi]
theorem y88 (l : List y9) (hl : l.length ≤ 1048576) (hm : ∀ a ∈ l, Zz (a, a) = some true) : Js (l, l) = some true := by
 unfold Js qe
 simp only [bne_self_eq_false, cond_false]
 refine y0r (fun _ => some true) l (by omega) ?_ ?_
 ·intro again i h0 h1
  unfold JP
  have hw : Go.IntKind.wrap .i64 (i + 1) = i + 1 := w64 (by omega) (by omega)
  have e : Zz (yj l i, yj l i) = some true := hm _ (zj yM l i h0 h1)
  simp only [Bool.cond_eq_ite, decide_eq_true_eq, h0, h1, if_true, hw, e, Option.bind_some, bne_self_eq_false, beq_self_eq_true, Bool.not_true, Bool.false_eq_true, if_false]
 ·intro again i hi
  unfold JP
  simp only [Bool.cond_eq_ite, decide_eq_true_eq, if_neg hi]
theorem y89 (l : List y7) (hl : l.length ≤ 1048576) (hm : ∀ a ∈ l, J1 (a, a) = some true) : j9 (l, l) = some true := by
 unfold j9 qf
 simp only [bne_self_eq_false, cond_false]
 refine y0r (fun _ => some true) l (by omega) ?_ ?_
 ·intro again i h0 h1
  unfold JQ
  have hw : Go.IntKind.wrap .i64 (i + 1) = i + 1 := w64 (by omega) (by omega)
  have e : J1 (ya l i, ya l i) = some true := hm _ (zj yr l i h0 h1)
  simp only [Bool.cond_eq_ite, decide_eq_true_eq, h0, h1, if_true, hw, e, Option.bind_some, bne_self_eq_false, beq_self_eq_true, Bool.not_true, Bool.false_eq_true, if_false]
 ·intro again i hi
  unfold JQ
  simp only [Bool.cond_eq_ite, decide_eq_true_eq, if_neg hi]
theorem y3w (n : Int) (m : Nat) (hn0 : 0 ≤ n) (hn1 : n ≤ 1048576) (hm : m ≤ maxLen) : ydM n m (bif decide (Go.IntKind.wrap .i64 (n - ((m : Nat) : Int)) < (0 : Int)) then some (-1 : Int) else some (Go.IntKind.wrap .i64 (n - ((m : Nat) : Int)))) := by
 simp only [maxLen] at hm
 rw [w64 (n := n - m) (by omega) (by omega)]
 simp only [Bool.cond_eq_ite, decide_eq_true_eq]
 by_cases h : n - m < 0
 ·rw [if_pos h]
  exact ⟨-1, rfl, .inl (by omega)⟩
 ·rw [if_neg h]
  exact ⟨_, rfl, .inr ⟨by omega, rfl⟩⟩
theorem ydR (l : List yh) (hl : l.length ≤ maxLen) (n : Int) (hn0 : 0 ≤ n) (hn1 : n ≤ 1048576) : ydM n (l.length : Nat) (K9 (l, n)) := y3w n l.length hn0 hn1 hl
theorem ydS (l : List y1Z) (hl : l.length ≤ maxLen) (n : Int) (hn0 : 0 ≤ n) (hn1 : n ≤ 1048576) : ydM n (l.length : Nat) (Zu (l, n)) := y3w n l.length hn0 hn1 hl
theorem ydT (l : List kZ) (hl : l.length ≤ maxLen) (n : Int) (hn0 : 0 ≤ n) (hn1 : n ≤ 1048576) : ydM n (l.length : Nat) (Ka (l, n)) := y3w n l.length hn0 hn1 hl
theorem yc3 (l : List Jh) (hl : l.length ≤ maxLen) (n : Int) (hn0 : 0 ≤ n) (hn1 : n ≤ 1048576) : ydM n (l.length : Nat) (Jp (l, n)) := y3w n l.length hn0 hn1 hl
theorem yc4 (l : List za) (hl : l.length ≤ maxLen) (hm : ∀ a ∈ l, List.length a ≤ maxLen) (n : Int) (hn0 : 0 ≤ n) (hn1 : n ≤ 1048576) : ydM n ((l.length : Int) + JJ (fun a : za => (List.length a : Int)) l) (Jo (l, n)) := by
 simp only [maxLen] at hl
 unfold Jo VZ
 simp only [Bool.cond_eq_ite, decide_eq_true_eq]
 rw [w64 (n := n - l.length) (by omega) (by omega)]
 by_cases h : n - (l.length : Int) < 0
 ·rw [if_pos h]
  exact ⟨-1, rfl, .inl (by omega)⟩
 ·rw [if_neg h]
  have hs : ∀ again (n i r : Int), 0 ≤ i → i < (l.length : Int) → Zu (l.getD i.toNat yaQ, n) = some r → Yb (fun x2 => some x2.2) (fun x3 => some x3) again (l, n, i) = if r < 0 then some (-1 : Int) else again (l, r, i + 1) := by
   intro again n i r h0 h1 hr
   unfold Yb
   have hw : Go.IntKind.wrap .i64 (i + 1) = i + 1 := w64 (by omega) (by omega)
   have hr' : Zu ((qI l i), n) = some r := hr
   simp only [Bool.cond_eq_ite, decide_eq_true_eq, h0, h1, if_true, hw, hr', Option.bind_some]
  have hd : ∀ again (n i : Int), ¬ i < (l.length : Int) → Yb (fun x2 => some x2.2) (fun x3 => some x3) again (l, n, i) = some n := by
   intro again n i hi
   unfold Yb
   simp only [Bool.cond_eq_ite, decide_eq_true_eq, if_neg hi]
  rcases y9Z yaQ (fun a : za => (List.length a : Int)) (fun a n => Zu (a, n)) (step := Yb (fun x2 => some x2.2) (fun x3 => some x3)) (fun x2 => some x2.2) (fun x3 => some x3) l (by omega) (fun a => by exact Int.natCast_nonneg _) (fun a ha n h0 h1 => ydS a (hm a ha) n h0 h1) hs hd (n - l.length) (by omega) (by omega) with ⟨r, e⟩ | ⟨r, r0, r1, e⟩
  ·rw [e]
   exact ⟨-1, rfl, .inl (by omega)⟩
  ·rw [e]
   exact ⟨r, rfl, .inr ⟨r0, by omega⟩⟩
def vx (l : List za) : Int := (List.length l : Int) + JJ (fun a : za => (List.length a : Int)) l
theorem jT (l : List za) : 0 ≤ vx l := by
 have := ZG (w := fun a : za => (List.length a : Int)) (fun a => Int.natCast_nonneg _) l
 unfold vx
 omega
theorem ydU (l : List za) (hl : l.length ≤ maxLen) (hm : ∀ a ∈ l, List.length a ≤ maxLen) (n : Int) (hn0 : 0 ≤ n) (hn1 : n ≤ 1048576) : ydM n (vx l) (YJ (l, n)) := by
 obtain ⟨r, hr, hc⟩ := yc4 l hl hm n hn0 hn1
 unfold YJ
 simp only [hr, Option.bind_some, Bool.cond_eq_ite, decide_eq_true_eq]
 rcases hc with hc | ⟨h0, h1⟩
 ·rw [if_pos hc]
  exact ⟨-1, rfl, .inl (by omega)⟩
 ·rw [if_neg (by omega)]
  exact ⟨r, rfl, .inr ⟨h0, h1⟩⟩
theorem yc5 (l : List Ya) (hl : l.length ≤ maxLen) (hm : ∀ a ∈ l, List.length a ≤ maxLen ∧ ∀ b ∈ (show List za from a), List.length b ≤ maxLen) (n : Int) (hn0 : 0 ≤ n) (hn1 : n ≤ 1048576) : ydM n ((l.length : Int) + JJ (vx) l) (j7 (l, n)) := by
 simp only [maxLen] at hl
 unfold j7 qa
 simp only [Bool.cond_eq_ite, decide_eq_true_eq]
 rw [w64 (n := n - l.length) (by omega) (by omega)]
 by_cases h : n - (l.length : Int) < 0
 ·rw [if_pos h]
  exact ⟨-1, rfl, .inl (by omega)⟩
 ·rw [if_neg h]
  have hs : ∀ again (n i r : Int), 0 ≤ i → i < (l.length : Int) → YJ (l.getD i.toNat yd3, n) = some r → Yc (fun x2 => some x2.2) (fun x3 => some x3) again (l, n, i) = if r < 0 then some (-1 : Int) else again (l, r, i + 1) := by
   intro again n i r h0 h1 hr
   unfold Yc
   have hw : Go.IntKind.wrap .i64 (i + 1) = i + 1 := w64 (by omega) (by omega)
   have hr' : YJ ((y0V l i), n) = some r := hr
   simp only [Bool.cond_eq_ite, decide_eq_true_eq, h0, h1, if_true, hw, hr', Option.bind_some]
  have hd : ∀ again (n i : Int), ¬ i < (l.length : Int) → Yc (fun x2 => some x2.2) (fun x3 => some x3) again (l, n, i) = some n := by
   intro again n i hi
   unfold Yc
   simp only [Bool.cond_eq_ite, decide_eq_true_eq, if_neg hi]
  rcases y9Z yd3 (vx) (fun a n => YJ (a, n)) (step := Yc (fun x2 => some x2.2) (fun x3 => some x3)) (fun x2 => some x2.2) (fun x3 => some x3) l (by omega) (fun a => by exact jT a) (fun a ha n h0 h1 => ydU a (hm a ha).1 (hm a ha).2 n h0 h1) hs hd (n - l.length) (by omega) (by omega) with ⟨r, e⟩ | ⟨r, r0, r1, e⟩
  ·rw [e]
   exact ⟨-1, rfl, .inl (by omega)⟩
  ·rw [e]
   exact ⟨r, rfl, .inr ⟨r0, by omega⟩⟩
theorem ydV (l : List Jn) (hl : l.length ≤ maxLen) (hm : ∀ a ∈ l, ByteArray.size a.1 ≤ maxLen) (n : Int) (hn0 : 0 ≤ n) (hn1 : n ≤ 1048576) : ydM n ((l.length : Int) + JJ (fun a : Jn => (ByteArray.size a.1 : Int)) l) (Zv (l, n)) := by
 simp only [maxLen] at hl
 unfold Zv qJ
 simp only [Bool.cond_eq_ite, decide_eq_true_eq]
 rw [w64 (n := n - l.length) (by omega) (by omega)]
 by_cases h : n - (l.length : Int) < 0
 ·rw [if_pos h]
  exact ⟨-1, rfl, .inl (by omega)⟩
 ·rw [if_neg h]
  have hs : ∀ again (n i r : Int), 0 ≤ i → i < (l.length : Int) → w9 ((l.getD i.toNat y82).1, (l.getD i.toNat y82).2.1, (l.getD i.toNat y82).2.2.1, (l.getD i.toNat y82).2.2.2, n) = some r → Ys (fun x2 => some x2.2) (fun x3 => some x3) again (l, n, i) = if r < 0 then some (-1 : Int) else again (l, r, i + 1) := by
   intro again n i r h0 h1 hr
   unfold Ys
   have hw : Go.IntKind.wrap .i64 (i + 1) = i + 1 := w64 (by omega) (by omega)
   have hr' : w9 ((kA l i).1, (kA l i).2.1, (kA l i).2.2.1, (kA l i).2.2.2, n) = some r := hr
   simp only [Bool.cond_eq_ite, decide_eq_true_eq, h0, h1, if_true, hw, hr', Option.bind_some]
  have hd : ∀ again (n i : Int), ¬ i < (l.length : Int) → Ys (fun x2 => some x2.2) (fun x3 => some x3) again (l, n, i) = some n := by
   intro again n i hi
   unfold Ys
   simp only [Bool.cond_eq_ite, decide_eq_true_eq, if_neg hi]
  rcases y9Z y82 (fun a : Jn => (ByteArray.size a.1 : Int)) (fun a n => w9 (a.1, a.2.1, a.2.2.1, a.2.2.2, n)) (step := Ys (fun x2 => some x2.2) (fun x3 => some x3)) (fun x2 => some x2.2) (fun x3 => some x3) l (by omega) (fun a => by exact Int.natCast_nonneg _) (fun a ha n h0 h1 => y3w n (ByteArray.size a.1) h0 h1 (hm a ha)) hs hd (n - l.length) (by omega) (by omega) with ⟨r, e⟩ | ⟨r, r0, r1, e⟩
  ·rw [e]
   exact ⟨-1, rfl, .inl (by omega)⟩
  ·rw [e]
   exact ⟨r, rfl, .inr ⟨r0, by omega⟩⟩
end Go.Proofs.YtmapoakbdgpamaaGreat.Pl
namespace Go.Proofs.YtmapoakbdgpamaaGreat.Pl
open Go.Proofs.YtmapoakbdgpamaaGreat.R Go.Proofs.YtmapoakbdgpamaaGreat.XP
theorem zS {T A S R : Type} {step : (T → Option R) → T → Option R} (mk : Int → S → T) (k : S → Option R) (da : A) (g : S → A → S) (l : List A) (hl : l.length ≤ 1099511627776) (I : Nat → S → Prop)
  (h : ∀ again i s, 0 ≤ i → i < (l.length : Int) → I i.toNat s → step again (mk i s) = again (mk (i + 1) (g s (l.getD i.toNat da))) ∧ I (i.toNat + 1) (g s (l.getD i.toNat da)))
  (hd : ∀ again i s, ¬ i < (l.length : Int) → step again (mk i s) = k s) (s : S) (hs : I 0 s) : zt step zJ (mk 0 s) = k (l.foldl g s) := by
 have key : ∀ (n : Nat) (i : Int) (s : S), 0 ≤ i → i ≤ l.length → I i.toNat s → l.length - i.toNat < n → zt step n (mk i s) = k ((l.drop i.toNat).foldl g s) := by
  intro n
  induction n with
  | zero => intro i s _ _ _ hn; omega
  | succ n ih =>
   intro i s h0 h1 hI hn
   rw [zt]
   by_cases hi : i < (l.length : Int)
   ·obtain ⟨e, hI'⟩ := h (zt step n) i s h0 hi hI
    have e1 : (i + 1).toNat = i.toNat + 1 := by omega
    rw [e, ih (i + 1) _ (by omega) (by omega) (by rw [e1]; exact hI') (by omega), Zm da l i h0 hi]
    rfl
   ·rw [hd _ i s hi, List.drop_of_length_le (by omega)]
    rfl
 have := key zJ 0 s (by omega) (by omega) hs (by rw [y0n]; simp; omega)
 simpa using this
def VP (c k : y8) : Bool := if c.1 < k.1 then true else if c.1 = k.1 then decide (c.2.1 < k.2.1) else false
def VQ (c k : y8) : Bool := decide (c.1 = k.1) && decide (c.2.1 = k.2.1)
theorem Qm (a1 a2 a3 a4 a5 b1 b2 b3 b4 b5 : Int) : ja (a1, a2, a3, a4, a5, b1, b2, b3, b4, b5) = some (VP (a1, a2, a3, a4, a5) (b1, b2, b3, b4, b5)) := by
 unfold ja VP
 by_cases h : a1 = b1
 ·subst h
  simp
 ·have hb : (a1 == b1) = false := by simpa using h
  have hb' : (a1 != b1) = true := by simpa using h
  by_cases h2 : a1 < b1 <;> simp [h, h2, hb, hb']
theorem Qn (a1 a2 a3 a4 a5 b1 b2 b3 b4 b5 : Int) : jd (a1, a2, a3, a4, a5, b1, b2, b3, b4, b5) = some (VP (a1, a2, a3, a4, a5) (b1, b2, b3, b4, b5)) := by
 unfold jd VP
 by_cases h : a1 = b1
 ·subst h
  simp
 ·have hb : (a1 == b1) = false := by simpa using h
  have hb' : (a1 != b1) = true := by simpa using h
  by_cases h2 : a1 < b1 <;> simp [h, h2, hb, hb']
theorem y2d (a1 a2 a3 a4 a5 b1 b2 b3 b4 b5 : Int) : Z8 (a1, a2, a3, a4, a5, b1, b2, b3, b4, b5) = some (VQ (a1, a2, a3, a4, a5) (b1, b2, b3, b4, b5)) := by
 unfold Z8 VQ
 have e1 : (a1 == b1) = decide (a1 = b1) := rfl
 have e2 : (a2 == b2) = decide (a2 = b2) := rfl
 simp only [e1, e2]
 cases decide (a1 = b1) <;> cases decide (a2 = b2) <;> rfl
theorem y2e (a1 a2 a3 a4 a5 b1 b2 b3 b4 b5 : Int) : Zh (a1, a2, a3, a4, a5, b1, b2, b3, b4, b5) = some (VQ (a1, a2, a3, a4, a5) (b1, b2, b3, b4, b5)) := by
 unfold Zh VQ
 have e1 : (a1 == b1) = decide (a1 = b1) := rfl
 have e2 : (a2 == b2) = decide (a2 = b2) := rfl
 simp only [e1, e2]
 cases decide (a1 = b1) <;> cases decide (a2 = b2) <;> rfl
theorem ysk {n k : Nat} (h : n ≤ 1073741825) (hk : (1073741825 + k) * 40 < 140737488355328) : (n + k) * 40 < 140737488355328 := by omega
def ji (k : y8) (s : Bool × List y8) (c : y8) : Bool × List y8 :=
 if s.1 = false ∧ VP c k = false then (true, if VQ c k then s.2 ++ [k] else s.2 ++ [k] ++ [c]) else (s.1, if VQ c k then s.2 else s.2 ++ [c])
def Jg (l : List y8) (k : y8) : List y8 :=
 let r := l.foldl (ji k) (false, [])
 if r.1 then r.2 else r.2 ++ [k]
def pN (p : Bool) : Nat := if p then 1 else 0
theorem y3x (k : y8) (s : Bool × List y8) (c : y8) : (ji k s c).2.length + pN s.1 ≤ s.2.length + 1 + pN (ji k s c).1 ∧ pN (ji k s c).1 ≤ 1 := by
 unfold ji pN
 obtain ⟨p, o⟩ := s
 cases p <;> cases VP c k <;> cases VQ c k <;> simp
theorem QG (k : y8) : ∀ (l : List y8) (s : Bool × List y8), (l.foldl (ji k) s).2.length + pN s.1 ≤ s.2.length + l.length + pN (l.foldl (ji k) s).1
 | [], s => by simp
 | c :: l, s => by
  have h1 := (y3x k s c).1
  have h2 := QG k l (ji k s c)
  simp only [List.foldl_cons, List.length_cons] at h2 ⊢
  omega
theorem wh (l : List y8) (k : y8) : (Jg l k).length ≤ l.length + 1 := by
 have h := QG k l (false, [])
 unfold Jg
 simp only [pN, List.length_nil, Bool.false_eq_true, if_false] at h ⊢
 cases hr : (l.foldl (ji k) (false, [])).1 with
 | true =>
  rw [hr] at h
  simp at h ⊢
  omega
 | false =>
  rw [hr] at h
  simp at h ⊢
  omega
theorem y2f {R : Type} (k0 : Bool × Int × Int × Int × Int × Int × List y8 → Option R) (again : wL → Option R) (l : List y8) (i : Int) (p : Bool) (a b c d e : Int) (o : List y8) (hl : l.length ≤ 1073741824) (h0 : 0 ≤ i) (h1 : i < (l.length : Int)) (ho : o.length ≤ 1073741825) :
  Yv k0 again (l, p, i, a, b, c, d, e, o) = again (l, (ji (a, b, c, d, e) (p, o) (l.getD i.toNat z0)).1, i + 1, a, b, c, d, e, (ji (a, b, c, d, e) (p, o) (l.getD i.toNat z0)).2) := by
 have hw : Go.IntKind.wrap .i64 (i + 1) = i + 1 := w64 (by omega) (by omega)
 have c1 : (o.length + (0 + 1)) * 40 < 140737488355328 := ysk ho (by decide)
 have c2 : (o.length + (0 + 1) + (0 + 1)) * 40 < 140737488355328 := by rw [Nat.add_assoc]; exact ysk ho (by decide)
 obtain ⟨⟨x1, x2, x3, x4, x5⟩, hx⟩ : ∃ x, y0 l i = x := ⟨_, rfl⟩
 have hx' : l.getD i.toNat z0 = (x1, x2, x3, x4, x5) := hx
 rw [hx']
 unfold Yv
 simp only [Bool.cond_eq_ite, decide_eq_true_eq, h0, h1, if_true, hw, hx, Qm, y2d, Option.bind_some, List.length_append, List.length_cons, List.length_nil]
 unfold ji
 generalize VP (x1, x2, x3, x4, x5) (a, b, c, d, e) = q1
 generalize VQ (x1, x2, x3, x4, x5) (a, b, c, d, e) = q2
 simp only [c1, c2, if_true]
 cases p <;> cases q1 <;> cases q2 <;> rfl
theorem y2g {R : Type} (k0 : Bool × Int × Int × Int × Int × Int × List y8 → Option R) (l : List y8) (a b c d e : Int) (hl : l.length ≤ 1073741824) :
  KK k0 (l, false, 0, a, b, c, d, e, []) = k0 ((l.foldl (ji (a, b, c, d, e)) (false, [])).1, a, b, c, d, e, (l.foldl (ji (a, b, c, d, e)) (false, [])).2) := by
 unfold KK
 refine zS (step := Yv k0) (fun (i : Int) (s : Bool × List y8) => (l, s.1, i, a, b, c, d, e, s.2)) (fun s => k0 (s.1, a, b, c, d, e, s.2)) z0 (ji (a, b, c, d, e)) l (by omega) (fun i s => s.2.length ≤ i + pN s.1) ?_ ?_ (false, []) (by simp)
 ·rintro again i ⟨p, o⟩ h0 h1 hI
  have hp : pN p ≤ 1 := by cases p <;> decide
  have hI' : o.length ≤ i.toNat + pN p := hI
  clear hI
  refine ⟨y2f k0 again l i p a b c d e o hl h0 h1 (by omega), ?_⟩
  have ho := (y3x (a, b, c, d, e) (p, o) (l.getD i.toNat z0)).1
  show (ji (a, b, c, d, e) (p, o) (l.getD i.toNat z0)).2.length ≤ i.toNat + 1 + pN (ji (a, b, c, d, e) (p, o) (l.getD i.toNat z0)).1
  generalize (ji (a, b, c, d, e) (p, o) (l.getD i.toNat z0)) = r at ho ⊢
  simp only at ho
  omega
 ·rintro again i ⟨p, o⟩ hi
  show Yv k0 again (l, p, i, a, b, c, d, e, o) = _
  unfold Yv
  simp only [Bool.cond_eq_ite, decide_eq_true_eq, if_neg hi]
theorem kj (l : List y8) (a b c d e : Int) (hl : l.length ≤ 1073741824) : zo (l, a, b, c, d, e) = some (Jg l (a, b, c, d, e)) := by
 have hlen := QG (a, b, c, d, e) l (false, [])
 unfold zo Jg
 rw [y2g _ l a b c d e hl]
 generalize l.foldl (ji (a, b, c, d, e)) (false, []) = r at hlen ⊢
 obtain ⟨q, o⟩ := r
 cases q with
 | true => rfl
 | false =>
  simp only [pN, List.length_nil, Bool.false_eq_true, if_false] at hlen
  simp only [Bool.not_false, cond_true, List.length_cons, List.length_nil, Bool.false_eq_true, if_false]
  rw [if_pos (by omega)]
theorem y2h {R : Type} (k0 : Bool × Int × Int × Int × Int × Int × List y8 → Option R) (again : W8 → Option R) (l : List y8) (i : Int) (p : Bool) (a b c d e : Int) (o : List y8) (hl : l.length ≤ 1073741824) (h0 : 0 ≤ i) (h1 : i < (l.length : Int)) (ho : o.length ≤ 1073741825) :
  Yy k0 again (p, l, (l.length : Int), i, a, b, c, d, e, o) = again ((ji (a, b, c, d, e) (p, o) (l.getD i.toNat z0)).1, l, (l.length : Int), i + 1, a, b, c, d, e, (ji (a, b, c, d, e) (p, o) (l.getD i.toNat z0)).2) := by
 have hw : Go.IntKind.wrap .i64 (i + 1) = i + 1 := w64 (by omega) (by omega)
 have c1 : (o.length + (0 + 1)) * 40 < 140737488355328 := ysk ho (by decide)
 have c2 : (o.length + (0 + 1) + (0 + 1)) * 40 < 140737488355328 := by rw [Nat.add_assoc]; exact ysk ho (by decide)
 obtain ⟨⟨x1, x2, x3, x4, x5⟩, hx⟩ : ∃ x, y0 l i = x := ⟨_, rfl⟩
 have hx' : l.getD i.toNat z0 = (x1, x2, x3, x4, x5) := hx
 rw [hx']
 unfold Yy
 simp only [Bool.cond_eq_ite, decide_eq_true_eq, h0, h1, if_true, hw, hx, Qn, y2e, Option.bind_some, List.length_append, List.length_cons, List.length_nil]
 unfold ji
 generalize VP (x1, x2, x3, x4, x5) (a, b, c, d, e) = q1
 generalize VQ (x1, x2, x3, x4, x5) (a, b, c, d, e) = q2
 simp only [c1, c2, if_true]
 cases p <;> cases q1 <;> cases q2 <;> rfl
theorem y2i {R : Type} (k0 : Bool × Int × Int × Int × Int × Int × List y8 → Option R) (l : List y8) (a b c d e : Int) (hl : l.length ≤ 1073741824) :
  va k0 (false, l, (l.length : Int), 0, a, b, c, d, e, []) = k0 ((l.foldl (ji (a, b, c, d, e)) (false, [])).1, a, b, c, d, e, (l.foldl (ji (a, b, c, d, e)) (false, [])).2) := by
 unfold va
 refine zS (step := Yy k0) (fun (i : Int) (s : Bool × List y8) => (s.1, l, (l.length : Int), i, a, b, c, d, e, s.2)) (fun s => k0 (s.1, a, b, c, d, e, s.2)) z0 (ji (a, b, c, d, e)) l (by omega) (fun i s => s.2.length ≤ i + pN s.1) ?_ ?_ (false, []) (by simp)
 ·rintro again i ⟨p, o⟩ h0 h1 hI
  have hp : pN p ≤ 1 := by cases p <;> decide
  have hI' : o.length ≤ i.toNat + pN p := hI
  clear hI
  refine ⟨y2h k0 again l i p a b c d e o hl h0 h1 (by omega), ?_⟩
  have ho := (y3x (a, b, c, d, e) (p, o) (l.getD i.toNat z0)).1
  show (ji (a, b, c, d, e) (p, o) (l.getD i.toNat z0)).2.length ≤ i.toNat + 1 + pN (ji (a, b, c, d, e) (p, o) (l.getD i.toNat z0)).1
  generalize (ji (a, b, c, d, e) (p, o) (l.getD i.toNat z0)) = r at ho ⊢
  simp only at ho
  omega
 ·rintro again i ⟨p, o⟩ hi
  show Yy k0 again (p, l, (l.length : Int), i, a, b, c, d, e, o) = _
  unfold Yy
  simp only [Bool.cond_eq_ite, decide_eq_true_eq, if_neg hi]
theorem V9 (l : List y8) (a b c d e : Int) (hl : l.length ≤ 1073741824) : ZE (l, a, b, c, d, e) = some (Jg l (a, b, c, d, e)) := by
 have hlen := QG (a, b, c, d, e) l (false, [])
 unfold ZE Jg
 rw [y2i _ l a b c d e hl]
 generalize l.foldl (ji (a, b, c, d, e)) (false, []) = r at hlen ⊢
 obtain ⟨q, o⟩ := r
 cases q with
 | true => rfl
 | false =>
  simp only [pN, List.length_nil, Bool.false_eq_true, if_false] at hlen
  simp only [Bool.not_false, cond_true, List.length_cons, List.length_nil, Bool.false_eq_true, if_false]
  rw [if_pos (by omega)]
end Go.Proofs.YtmapoakbdgpamaaGreat.Pl
namespace Go.Proofs.YtmapoakbdgpamaaGreat.Pl
open Go.Proofs.YtmapoakbdgpamaaGreat.R Go.Proofs.YtmapoakbdgpamaaGreat.XP
def wi (a b : List y8) : List y8 := b.foldl Jg a
theorem QH : ∀ (b a : List y8), (wi a b).length ≤ a.length + b.length
 | [], a => by simp [wi]
 | c :: b, a => by
  have h := QH b (Jg a c)
  have h2 := wh a c
  unfold wi at h ⊢
  simp only [List.foldl_cons, List.length_cons] at h ⊢
  omega
def vq (s : List y8) (c : y8) : List y8 := if c.2.2.1 = 0 then s else s ++ [c]
def y3y (l : List y8) : List y8 := l.foldl vq []
theorem y0s (s : List y8) (c : y8) : (vq s c).length ≤ s.length + 1 := by
 unfold vq
 split <;> simp
theorem y3z : ∀ (l s : List y8), (l.foldl vq s).length ≤ s.length + l.length
 | [], s => by simp
 | c :: l, s => by
  have h := y3z l (vq s c)
  have h2 := y0s s c
  simp only [List.foldl_cons, List.length_cons]
  omega
def VB (a : za) : Int := (List.length a : Int)
theorem ka (a : za) : 0 ≤ VB a := Int.natCast_nonneg _
def yV (n : List za) : List y8 := y3y (n.foldl wi [])
theorem y0Z : ∀ (n : List za) (s : List y8), ((n.foldl wi s).length : Int) ≤ s.length + JJ VB n
 | [], s => by simp [JJ]
 | c :: n, s => by
  have h := y0Z n (wi s c)
  have h2 := QH c s
  simp only [List.foldl_cons, zR, VB]
  omega
theorem vr (n : List za) : ((yV n).length : Int) ≤ JJ VB n := by
 have h := y3z (n.foldl wi []) []
 have h2 := y0Z n []
 unfold yV y3y
 simp only [List.length_nil] at h h2
 omega
theorem y10 (n : List za) : JJ VB n ≤ vx n := by
 show JJ (fun a : za => (List.length a : Int)) n ≤ (List.length n : Int) + JJ (fun a : za => (List.length a : Int)) n
 omega
def kT (s : List y8) (n : Ya) : List y8 := s ++ yV n
def zh (t : List Ya) : List y8 := t.foldl kT []
theorem y1t (a b : List y8) (h : a.length + b.length ≤ 1073741824) : YD (a, b) = some (wi a b) := by
 unfold YD vM
 simp only [List.length_nil, Nat.zero_add, List.nil_append]
 rw [if_pos (by omega)]
 refine zS (step := YK _) (fun (i : Int) (s : List y8) => (b, i, s)) (fun s => some s) z0 Jg b (by omega) (fun i s => s.length ≤ a.length + i) ?_ ?_ a (by simp)
 ·intro again i s h0 h1 hI
  have hw : Go.IntKind.wrap .i64 (i + 1) = i + 1 := w64 (by omega) (by omega)
  have hs := wh s (b.getD i.toNat z0)
  have e := kj s (y0 b i).1 (y0 b i).2.1 (y0 b i).2.2.1 (y0 b i).2.2.2.1 (y0 b i).2.2.2.2 (by omega)
  refine ⟨?_, by omega⟩
  unfold YK
  simp only [Bool.cond_eq_ite, decide_eq_true_eq, h0, h1, if_true, hw, e, Option.bind_some]
  rfl
 ·intro again i s hi
  unfold YK
  simp only [Bool.cond_eq_ite, decide_eq_true_eq, if_neg hi]
theorem Qo (l : List y8) (h : l.length ≤ 1073741824) : zN l = some (y3y l) := by
 unfold zN y0W
 refine zS (step := wI _) (fun (i : Int) (s : List y8) => (l, i, s)) (fun s => some s) z0 vq l (by omega) (fun i s => s.length ≤ i) ?_ ?_ [] (by simp)
 ·intro again i s h0 h1 hI
  have hw : Go.IntKind.wrap .i64 (i + 1) = i + 1 := w64 (by omega) (by omega)
  have hs := y0s s (l.getD i.toNat z0)
  refine ⟨?_, by omega⟩
  have c1 : (s.length + 1) * 40 < 140737488355328 := by omega
  clear hs
  unfold wI vq
  obtain ⟨⟨x1, x2, x3, x4, x5⟩, hx⟩ : ∃ x, y0 l i = x := ⟨_, rfl⟩
  have hx' : l.getD i.toNat z0 = (x1, x2, x3, x4, x5) := hx
  rw [hx']
  simp only [Bool.cond_eq_ite, decide_eq_true_eq, h0, h1, if_true, hw, hx, List.length_cons, List.length_nil, Nat.zero_add, c1]
  by_cases h3 : x3 = 0
  ·rw [if_neg (by simpa using h3), if_pos h3]
  ·rw [if_pos (by simpa using h3), if_neg h3]
 ·intro again i s hi
  unfold wI
  simp only [Bool.cond_eq_ite, decide_eq_true_eq, if_neg hi]
theorem YF (n : List y9) (hn : n.length ≤ 1073741824) (h : JJ VB n ≤ 1048576) : yx n = some (yV n) := by
 have hlen := y0Z n []
 simp only [List.length_nil] at hlen
 have hD := Qo (n.foldl wi []) (by omega)
 unfold yx Vq
 refine (zS (step := Z9 _) (fun (i : Int) (s : List y8) => (i, n, s)) (fun s => Option.bind (zN s) fun r3 => some r3) yM wi n (by omega) (fun i s => (s.length : Int) + JJ VB (n.drop i) ≤ JJ VB n) ?_ ?_ [] (by simp)).trans ?_
 ·intro again i s h0 h1 hI
  have hw : Go.IntKind.wrap .i64 (i + 1) = i + 1 := w64 (by omega) (by omega)
  rw [Zm yM n i h0 h1, zR, show (i + 1).toNat = i.toNat + 1 by omega] at hI
  have hnn := ZG ka (n.drop (i.toNat + 1))
  have hm := QH (n.getD i.toNat yM) s
  have hk : VB (n.getD i.toNat yM) = (List.length (n.getD i.toNat yM) : Int) := rfl
  have e : YD (s, yj n i) = some (wi s (yj n i)) := y1t s _ (by show s.length + List.length (n.getD i.toNat yM) ≤ _; omega)
  refine ⟨?_, by omega⟩
  unfold Z9
  simp only [Bool.cond_eq_ite, decide_eq_true_eq, h0, h1, if_true, hw, e, Option.bind_some]
  rfl
 ·intro again i s hi
  unfold Z9
  simp only [Bool.cond_eq_ite, decide_eq_true_eq, if_neg hi]
 ·rw [hD]
  rfl
theorem YG (q : List Int) (t : List y7) (ht : t.length ≤ 1073741824) (hm : ∀ n ∈ t, List.length n ≤ 1073741824) (h : JJ vx t ≤ 1048576) : yJ (q, t) = some (zh t) := by
 unfold yJ Vr
 refine zS (step := Za _) (fun (i : Int) (s : List y8) => (i, q, t, s)) (fun s => some s) yr kT t (by omega) (fun i s => (s.length : Int) + JJ vx (t.drop i) ≤ JJ vx t) ?_ ?_ [] (by simp)
 ·intro again i s h0 h1 hI
  have hw : Go.IntKind.wrap .i64 (i + 1) = i + 1 := w64 (by omega) (by omega)
  rw [Zm yr t i h0 h1, zR, show (i + 1).toNat = i.toNat + 1 by omega] at hI
  have hnn := ZG jT (t.drop (i.toNat + 1))
  have hge := y10 (t.getD i.toNat yr)
  have hk := vr (t.getD i.toNat yr)
  have e : yx (ya t i) = some (yV (ya t i)) := YF _ (hm _ (zj yr t i h0 h1)) (by show JJ VB (t.getD i.toNat yr) ≤ _; omega)
  have hT : (kT s (t.getD i.toNat yr)).length = s.length + (yV (t.getD i.toNat yr)).length := List.length_append
  have c1 : (s.length + (yV (ya t i)).length) * 40 < 140737488355328 := by
   show (s.length + (yV (t.getD i.toNat yr)).length) * 40 < 140737488355328
   generalize (yV (t.getD i.toNat yr)).length = m at hk ⊢
   clear hT e
   have : s.length + m ≤ 1048576 := by omega
   omega
  refine ⟨?_, by rw [hT]; omega⟩
  unfold Za
  simp only [Bool.cond_eq_ite, decide_eq_true_eq, h0, h1, if_true, hw, e, Option.bind_some, c1]
  rfl
 ·intro again i s hi
  unfold Za
  simp only [Bool.cond_eq_ite, decide_eq_true_eq, if_neg hi]
theorem y1u (a b : List y8) (h : a.length + b.length ≤ 1073741824) : YE (a, b) = some (wi a b) := by
 unfold YE zO vR
 simp only [List.length_nil, Nat.zero_add, List.nil_append]
 rw [if_pos (by omega), Option.bind_some]
 refine zS (step := YR _) (fun (i : Int) (s : List y8) => (b, (b.length : Int), i, s)) (fun s => some s) z0 Jg b (by omega) (fun i s => s.length ≤ a.length + i) ?_ ?_ a (by simp)
 ·intro again i s h0 h1 hI
  have hw : Go.IntKind.wrap .i64 (i + 1) = i + 1 := w64 (by omega) (by omega)
  have hs := wh s (b.getD i.toNat z0)
  have e := V9 s (y0 b i).1 (y0 b i).2.1 (y0 b i).2.2.1 (y0 b i).2.2.2.1 (y0 b i).2.2.2.2 (by omega)
  refine ⟨?_, by omega⟩
  unfold YR
  simp only [Bool.cond_eq_ite, decide_eq_true_eq, h0, h1, if_true, hw, e, Option.bind_some]
  rfl
 ·intro again i s hi
  unfold YR
  simp only [Bool.cond_eq_ite, decide_eq_true_eq, if_neg hi]
theorem y20 (l : List y8) (h : l.length ≤ 1073741824) : jJ l = some (y3y l) := by
 unfold jJ y0Y
 refine zS (step := Wa _) (fun (i : Int) (s : List y8) => (l, (l.length : Int), i, s)) (fun s => some s) z0 vq l (by omega) (fun i s => s.length ≤ i) ?_ ?_ [] (by simp)
 ·intro again i s h0 h1 hI
  have hw : Go.IntKind.wrap .i64 (i + 1) = i + 1 := w64 (by omega) (by omega)
  have hs := y0s s (l.getD i.toNat z0)
  refine ⟨?_, by omega⟩
  have c1 : (s.length + 1) * 40 < 140737488355328 := by omega
  clear hs
  unfold Wa vq
  obtain ⟨⟨x1, x2, x3, x4, x5⟩, hx⟩ : ∃ x, y0 l i = x := ⟨_, rfl⟩
  have hx' : l.getD i.toNat z0 = (x1, x2, x3, x4, x5) := hx
  rw [hx']
  simp only [Bool.cond_eq_ite, decide_eq_true_eq, h0, h1, if_true, hw, hx, List.length_cons, List.length_nil, Nat.zero_add, c1]
  by_cases h3 : x3 = 0
  ·rw [if_neg (by simpa using h3), if_pos h3]
  ·rw [if_pos (by simpa using h3), if_neg h3]
 ·intro again i s hi
  unfold Wa
  simp only [Bool.cond_eq_ite, decide_eq_true_eq, if_neg hi]
theorem ZZ (n : List y9) (hn : n.length ≤ 1073741824) (h : JJ VB n ≤ 1048576) : yG n = some (yV n) := by
 have hlen := y0Z n []
 simp only [List.length_nil] at hlen
 have hD := y20 (n.foldl wi []) (by omega)
 unfold yG Vx
 refine (zS (step := Zi _) (fun (i : Int) (s : List y8) => (n, (n.length : Int), i, s)) (fun s => Option.bind (jJ s) fun r3 => some r3) yM wi n (by omega) (fun i s => (s.length : Int) + JJ VB (n.drop i) ≤ JJ VB n) ?_ ?_ [] (by simp)).trans ?_
 ·intro again i s h0 h1 hI
  have hw : Go.IntKind.wrap .i64 (i + 1) = i + 1 := w64 (by omega) (by omega)
  rw [Zm yM n i h0 h1, zR, show (i + 1).toNat = i.toNat + 1 by omega] at hI
  have hnn := ZG ka (n.drop (i.toNat + 1))
  have hm := QH (n.getD i.toNat yM) s
  have hk : VB (n.getD i.toNat yM) = (List.length (n.getD i.toNat yM) : Int) := rfl
  have e : YE (s, yj n i) = some (wi s (yj n i)) := y1u s _ (by show s.length + List.length (n.getD i.toNat yM) ≤ _; omega)
  refine ⟨?_, by omega⟩
  unfold Zi
  simp only [Bool.cond_eq_ite, decide_eq_true_eq, h0, h1, if_true, hw, e, Option.bind_some]
  rfl
 ·intro again i s hi
  unfold Zi
  simp only [Bool.cond_eq_ite, decide_eq_true_eq, if_neg hi]
 ·rw [hD]
  rfl
theorem JW (q : List Int) (t : List y7) (ht : t.length ≤ 1073741824) (hm : ∀ n ∈ t, List.length n ≤ 1073741824) (h : JJ vx t ≤ 1048576) : zg (q, t) = some (zh t) := by
 unfold zg Vy
 refine zS (step := Zj _) (fun (i : Int) (s : List y8) => (t, (t.length : Int), i, s)) (fun s => some s) yr kT t (by omega) (fun i s => (s.length : Int) + JJ vx (t.drop i) ≤ JJ vx t) ?_ ?_ [] (by simp)
 ·intro again i s h0 h1 hI
  have hw : Go.IntKind.wrap .i64 (i + 1) = i + 1 := w64 (by omega) (by omega)
  rw [Zm yr t i h0 h1, zR, show (i + 1).toNat = i.toNat + 1 by omega] at hI
  have hnn := ZG jT (t.drop (i.toNat + 1))
  have hge := y10 (t.getD i.toNat yr)
  have hk := vr (t.getD i.toNat yr)
  have e : yG (ya t i) = some (yV (ya t i)) := ZZ _ (hm _ (zj yr t i h0 h1)) (by show JJ VB (t.getD i.toNat yr) ≤ _; omega)
  have hT : (kT s (t.getD i.toNat yr)).length = s.length + (yV (t.getD i.toNat yr)).length := List.length_append
  have c1 : (s.length + (yV (ya t i)).length) * 40 < 140737488355328 := by
   show (s.length + (yV (t.getD i.toNat yr)).length) * 40 < 140737488355328
   generalize (yV (t.getD i.toNat yr)).length = m at hk ⊢
   clear hT e
   have : s.length + m ≤ 1048576 := by omega
   omega
  refine ⟨?_, by rw [hT]; omega⟩
  unfold Zj
  simp only [Bool.cond_eq_ite, decide_eq_true_eq, h0, h1, if_true, hw, e, Option.bind_some, c1]
  rfl
 ·intro again i s hi
  unfold Zj
  simp only [Bool.cond_eq_ite, decide_eq_true_eq, if_neg hi]
end Go.Proofs.YtmapoakbdgpamaaGreat.Pl
namespace Go.Proofs.YtmapoakbdgpamaaGreat.Pl
open Go.Proofs.YtmapoakbdgpamaaGreat.R Go.Proofs.YtmapoakbdgpamaaGreat.XP
def y8a {S A R : Type} (g : Int → S → A → Except (Option R) S) (k : S → Option R) : List A → Int → S → Option R
 | [], _, s => k s
 | a :: l, i, s => match g i s a with
  | .error r => r
  | .ok s' => y8a g k l (i + 1) s'
theorem y3A {T A S R : Type} {step : (T → Option R) → T → Option R} (mk : Int → S → T) (g : Int → S → A → Except (Option R) S) (k : S → Option R) (da : A) (l : List A) (hl : l.length ≤ 1099511627776) (I : Nat → S → Prop)
  (h : ∀ again i s, 0 ≤ i → i < (l.length : Int) → I i.toNat s → (step again (mk i s) = match g i s (l.getD i.toNat da) with
   | .error r => r
   | .ok s' => again (mk (i + 1) s')) ∧ ∀ s', g i s (l.getD i.toNat da) = .ok s' → I (i.toNat + 1) s')
  (hd : ∀ again i s, ¬ i < (l.length : Int) → step again (mk i s) = k s) (s : S) (hs : I 0 s) : zt step zJ (mk 0 s) = y8a g k l 0 s := by
 have key : ∀ (n : Nat) (i : Int) (s : S), 0 ≤ i → i ≤ l.length → I i.toNat s → l.length - i.toNat < n → zt step n (mk i s) = y8a g k (l.drop i.toNat) i s := by
  intro n
  induction n with
  | zero => intro i s _ _ _ hn; omega
  | succ n ih =>
   intro i s h0 h1 hI hn
   rw [zt]
   by_cases hi : i < (l.length : Int)
   ·obtain ⟨e, hI'⟩ := h (zt step n) i s h0 hi hI
    have e1 : (i + 1).toNat = i.toNat + 1 := by omega
    rw [e, Zm da l i h0 hi, y8a]
    cases hg : g i s (l.getD i.toNat da) with
    | error r => rfl
    | ok s' => exact ih (i + 1) s' (by omega) (by omega) (by rw [e1]; exact hI' s' hg) (by omega)
   ·rw [hd _ i s hi, List.drop_of_length_le (by omega)]
    rfl
 have := key zJ 0 s (by omega) (by omega) hs (by rw [y0n]; simp; omega)
 simpa using this
def Z5 {A : Type} (p : A → Bool) : List A → Int → Int
 | [], _ => -1
 | a :: l, i => if p a then i else Z5 p l (i + 1)
theorem y8b {A R : Type} (p : A → Bool) (hit : Int → Option R) (miss : Option R) : ∀ (l : List A) (i : Int), 0 ≤ i → y8a (fun i (_ : Unit) a => if p a then .error (hit i) else .ok ()) (fun _ => miss) l i () = if Z5 p l i < 0 then miss else hit (Z5 p l i)
 | [], i, _ => by simp [y8a, Z5]
 | a :: l, i, h => by
  rw [y8a, Z5]
  by_cases hp : p a = true
  ·rw [if_pos hp, if_pos hp, if_neg (by omega)]
  ·rw [if_neg hp, if_neg hp]
   exact y8b p hit miss l (i + 1) (by omega)
theorem YZ {T A R : Type} {step : (T → Option R) → T → Option R} (mk : Int → T) (p : A → Bool) (hit : Int → Option R) (miss : Option R) (da : A) (l : List A) (hl : l.length ≤ 1099511627776)
  (h : ∀ again i, 0 ≤ i → i < (l.length : Int) → step again (mk i) = if p (l.getD i.toNat da) then hit i else again (mk (i + 1)))
  (hd : ∀ again i, ¬ i < (l.length : Int) → step again (mk i) = miss) : zt step zJ (mk 0) = if Z5 p l 0 < 0 then miss else hit (Z5 p l 0) := by
 rw [← y8b p hit miss l 0 (Int.le_refl _)]
 refine y3A (fun i (_ : Unit) => mk i) _ _ da l hl (fun _ _ => True) (fun again i s h0 h1 _ => ⟨?_, fun _ _ => trivial⟩) (fun again i s hi => hd again i hi) () trivial
 rw [h again i h0 h1]
 cases p (l.getD i.toNat da) <;> rfl
theorem Kn {A : Type} (p : A → Bool) (da : A) : ∀ (l : List A) (i : Int), 0 ≤ i → Z5 p l i = -1 ∨ (i ≤ Z5 p l i ∧ Z5 p l i < i + l.length ∧ p (l.getD (Z5 p l i - i).toNat da) = true)
 | [], i, _ => .inl rfl
 | a :: l, i, h => by
  rw [Z5]
  by_cases hp : p a = true
  ·rw [if_pos hp]
   refine .inr ⟨Int.le_refl _, by simp only [List.length_cons]; omega, ?_⟩
   simpa using hp
  ·rw [if_neg hp]
   rcases Kn p da l (i + 1) (by omega) with e | ⟨e1, e2, e3⟩
   ·exact .inl e
   ·refine .inr ⟨by omega, by simp only [List.length_cons]; omega, ?_⟩
    rw [show (Z5 p l (i + 1) - i).toNat = (Z5 p l (i + 1) - (i + 1)).toNat + 1 by omega, List.getD_cons_succ]
    exact e3
def Y5 (l : List yf) (id : Int) : Int := Z5 (fun a : yf => a.1 == id) l 0
theorem QI (l : List yf) (id : Int) : Y5 l id = -1 ∨ (0 ≤ Y5 l id ∧ Y5 l id < l.length ∧ (l.getD (Y5 l id).toNat Y1).1 = id) := by
 rcases Kn (fun a : yf => a.1 == id) Y1 l 0 (Int.le_refl _) with h | ⟨h1, h2, h3⟩
 ·exact .inl h
 ·refine .inr ⟨h1, by simpa [Y5] using h2, ?_⟩
  have := eq_of_beq h3
  simpa [Y5] using this
theorem Je (l : List yf) (id : Int) (hl : l.length ≤ 1073741824) : Y7 (l, id) = some (Y5 l id) := by
 unfold Y7 QY
 refine (YZ (step := Jx _ _) (fun i => (l, id, i)) (fun a : yf => a.1 == id) (fun x => some x) (some (-1)) Y1 l (by omega) ?_ ?_).trans ?_
 ·intro again i h0 h1
  have hw : Go.IntKind.wrap .i64 (i + 1) = i + 1 := w64 (by omega) (by omega)
  unfold Jx
  simp only [Bool.cond_eq_ite, decide_eq_true_eq, h0, h1, if_true, hw]
  rfl
 ·intro again i hi
  unfold Jx
  simp only [Bool.cond_eq_ite, decide_eq_true_eq, if_neg hi]
 ·rcases QI l id with h | ⟨h1, h2, h3⟩ <;> unfold Y5 at *
  ·rw [h]
   rfl
  ·rw [if_neg (by omega)]
theorem Wr (l : List yf) (id : Int) (hl : l.length ≤ 1073741824) : Yp (l, id) = some (Y5 l id) := by
 have key : yR (l, id) = some (Y5 l id, id) := by
  unfold yR Yg
  refine (YZ (step := yK _ _) (fun i => (l, (l.length : Int), i, id)) (fun a : yf => a.1 == id) (fun x => some (x, id)) (some (-1, id)) Y1 l (by omega) ?_ ?_).trans ?_
  ·intro again i h0 h1
   have hw : Go.IntKind.wrap .i64 (i + 1) = i + 1 := w64 (by omega) (by omega)
   unfold yK ki
   simp only [Bool.cond_eq_ite, decide_eq_true_eq, h0, h1, if_true, hw, Option.bind_some]
   rfl
  ·intro again i hi
   unfold yK
   simp only [Bool.cond_eq_ite, decide_eq_true_eq, if_neg hi]
  ·rcases QI l id with h | ⟨h1, h2, h3⟩ <;> unfold Y5 at *
   ·rw [h]
    rfl
   ·rw [if_neg (by omega)]
 unfold Yp
 rw [key]
 rfl
def yks (l : List Int) (v : Int) : Bool := decide (0 ≤ Z5 (fun a : Int => a == v) l 0)
theorem ya4 (l : List Int) (v : Int) (hl : l.length ≤ 1073741824) : kv (l, v) = some (yks l v) := by
 unfold kv QZ
 refine (YZ (step := JA _ _) (fun i => (l, v, i)) (fun a : Int => a == v) (fun _ => some true) (some false) yd2 l (by omega) ?_ ?_).trans ?_
 ·intro again i h0 h1
  have hw : Go.IntKind.wrap .i64 (i + 1) = i + 1 := w64 (by omega) (by omega)
  unfold JA
  simp only [Bool.cond_eq_ite, decide_eq_true_eq, h0, h1, if_true, hw]
  rfl
 ·intro again i hi
  unfold JA
  simp only [Bool.cond_eq_ite, decide_eq_true_eq, if_neg hi]
 ·unfold yks
  by_cases h : Z5 (fun a : Int => a == v) l 0 < 0
  ·rw [if_pos h, decide_eq_false (by omega)]
  ·rw [if_neg h, decide_eq_true (by omega)]
theorem ya5 (l : List Int) (v : Int) (hl : l.length ≤ 1073741824) : Y8 (l, v) = some (yks l v) := by
 have key : YU (l, v) = some (Z5 (fun a : Int => a == v) l 0) := by
  unfold YU K1
  refine (YZ (step := Yh _ _) (fun i => (l, v, (l.length : Int), i)) (fun a : Int => a == v) (fun x => some x) (some (-1)) yd2 l (by omega) ?_ ?_).trans ?_
  ·intro again i h0 h1
   have hw : Go.IntKind.wrap .i64 (i + 1) = i + 1 := w64 (by omega) (by omega)
   unfold Yh
   have e : (v == (z9 l i)) = ((z9 l i) == v) := Bool.beq_comm
   simp only [Bool.cond_eq_ite, decide_eq_true_eq, h0, h1, if_true, hw, e]
   rfl
  ·intro again i hi
   unfold Yh
   simp only [Bool.cond_eq_ite, decide_eq_true_eq, if_neg hi]
  ·rcases Kn (fun a : Int => a == v) yd2 l 0 (Int.le_refl _) with h | ⟨h1, h2, h3⟩
   ·rw [h]
    rfl
   ·rw [if_neg (by omega)]
 unfold Y8
 rw [key]
 rfl
def QR (l : List yf) : Nat → Int → List Int
 | 0, _ => []
 | n + 1, at_ => if at_ < 0 then [] else (l.getD at_.toNat Y1).1 :: QR l n (Y5 l (l.getD at_.toNat Y1).2)
def y03 (l : List yf) (id : Int) : List Int := QR l (l.length + 1) (Y5 l id)
theorem y8c (l : List yf) (n : Nat) (i : Int) (h : 0 ≤ i) : QR l (n + 1) i = (l.getD i.toNat Y1).1 :: QR l n (Y5 l (l.getD i.toNat Y1).2) := by rw [QR, if_neg (by omega)]
theorem ydW (l : List yf) (n : Nat) : QR l n (-1) = [] := by cases n <;> simp [QR]
theorem y8d (l : List yf) : ∀ (n : Nat) (i : Int), (QR l n i).length ≤ n
 | 0, _ => by simp [QR]
 | n + 1, i => by
  rw [QR]
  split
  ·simp
  ·have := y8d l n (Y5 l (l.getD i.toNat Y1).2)
   simp only [List.length_cons]
   omega
theorem y04 (l : List yf) (id : Int) (hl : l.length ≤ 1048576) : J6 (l, id) = some (y03 l id) := by
 unfold J6 Q0 y03
 rw [Je l id (by omega), Option.bind_some]
 have key := Yi (step := wS (fun x4 => some x4)) (fun t : wR => l.length + 1 - t.2.2.length) (fun t => t.1 = l ∧ t.2.2.length ≤ l.length + 1 ∧ ∃ id, t.2.1 = Y5 l id) (fun t => some (t.2.2 ++ QR l (l.length + 1 - t.2.2.length) t.2.1)) ?_ (l, Y5 l id, []) ⟨rfl, by simp, id, rfl⟩ (by simp; omega)
 ·simpa using key
 ·rintro again ⟨l', at_, o⟩ ⟨hll, ho, id', hid⟩ hag
  simp only at hll ho hid
  subst hll hid
  unfold wS
  simp only [Bool.cond_eq_ite, decide_eq_true_eq, List.length_cons, List.length_nil, Nat.zero_add]
  rcases QI l' id' with h | ⟨h1, h2, h3⟩
  ·rw [h]
   have : QR l' (l'.length + 1 - o.length) (-1) = [] := by
    cases l'.length + 1 - o.length <;> simp [QR]
   simp [this]
  ·simp only [ge_iff_le, h1, if_true, h2]
   by_cases hlen : (o.length : Int) ≤ (l'.length : Int)
   ·have e := Je l' (yD l' (Y5 l' id')).2 (by omega)
    rw [show l'.length + 1 - o.length = (l'.length - o.length) + 1 by omega, y8c _ _ _ h1]
    simp only [hlen, decide_true, Option.bind_some, if_true, e]
    have hl1 : (o ++ [(yD l' (Y5 l' id')).1]).length = o.length + 1 := by simp
    rw [if_pos (by omega), hag (l', Y5 l' (yD l' (Y5 l' id')).2, o ++ [(yD l' (Y5 l' id')).1]) ⟨rfl, by show (o ++ [(yD l' (Y5 l' id')).1]).length ≤ _; omega, _, rfl⟩ (by show l'.length + 1 - (o ++ [(yD l' (Y5 l' id')).1]).length < l'.length + 1 - o.length; omega)]
    simp only [hl1]
    rw [show l'.length + 1 - (o.length + 1) = l'.length - o.length by omega, List.append_assoc]
    rfl
   ·rw [show l'.length + 1 - o.length = 0 by omega]
    simp [hlen, QR]
theorem y05 (l : List yf) (id : Int) (hl : l.length ≤ 1048576) : Jc (l, id) = some (y03 l id) := by
 unfold Jc Qg y03
 simp only
 rw [w64 (n := (l.length : Int) + 1) (by omega) (by omega)]
 have key := Yi (step := Wi (fun x2 => some x2)) (fun t : Wh => l.length + 1 - t.2.2.2.2.length) (fun t => t.1 = l ∧ t.2.2.1 = (l.length : Int) + 1 ∧ t.2.2.2.1 = (t.2.2.2.2.length : Int) ∧ t.2.2.2.2.length ≤ l.length + 1) (fun t => some (t.2.2.2.2 ++ QR l (l.length + 1 - t.2.2.2.2.length) (Y5 l t.2.1))) ?_ (l, id, (l.length : Int) + 1, 0, []) ⟨rfl, rfl, by simp, by simp⟩ (by simp; omega)
 ·simpa using key
 ·rintro again ⟨l', id', n, i, o⟩ ⟨hll, hn, hi, ho⟩ hag
  simp only at hll ho hn hi
  subst hll hn hi
  unfold Wi
  have e := Wr l' id' (by omega)
  simp only [Bool.cond_eq_ite, decide_eq_true_eq, e, Option.bind_some, List.length_cons, List.length_nil, Nat.zero_add]
  by_cases hlen : (o.length : Int) < (l'.length : Int) + 1
  ·rw [if_pos hlen, show l'.length + 1 - o.length = (l'.length - o.length) + 1 by omega]
   rcases QI l' id' with h | ⟨h1, h2, h3⟩
   ·rw [h, ydW]
    simp
   ·have hw : Go.IntKind.wrap .i64 ((o.length : Int) + 1) = (o.length : Int) + 1 := w64 (by omega) (by omega)
    have hl1 : (o ++ [id']).length = o.length + 1 := by simp
    rw [y8c _ _ _ h1, if_neg (by omega), if_pos (by omega), if_pos h1, if_pos h2, hw, hag (l', (yD l' (Y5 l' id')).2, (l'.length : Int) + 1, (o.length : Int) + 1, o ++ [id']) ⟨rfl, rfl, by show _ = ((o ++ [id']).length : Int); rw [hl1]; rfl, by show (o ++ [id']).length ≤ _; omega⟩ (by show l'.length + 1 - (o ++ [id']).length < l'.length + 1 - o.length; omega), h3]
    simp only [hl1]
    rw [show l'.length + 1 - (o.length + 1) = l'.length - o.length by omega, List.append_assoc]
    rfl
  ·rw [if_neg hlen, show l'.length + 1 - o.length = 0 by omega]
   simp [QR]
end Go.Proofs.YtmapoakbdgpamaaGreat.Pl
namespace Go.Proofs.YtmapoakbdgpamaaGreat.Pl
open Go.Proofs.YtmapoakbdgpamaaGreat.R Go.Proofs.YtmapoakbdgpamaaGreat.XP
def y11 (blk : Int) (s : List y8) (a : y8) : List y8 := if a.1 == blk then s ++ [a] else s
def vX (ks : List y8) (blk : Int) : List y8 := ks.foldl (y11 blk) []
theorem y1v (blk : Int) (s : List y8) (a : y8) : (y11 blk s a).length ≤ s.length + 1 := by
 unfold y11
 split <;> simp
theorem y3B (blk : Int) : ∀ (l s : List y8), (l.foldl (y11 blk) s).length ≤ s.length + l.length
 | [], s => by simp
 | c :: l, s => by
  have h := y3B blk l (y11 blk s c)
  have h2 := y1v blk s c
  simp only [List.foldl_cons, List.length_cons]
  omega
theorem y8e : ∀ (t : List Ya) (s : List y8), ((t.foldl kT s).length : Int) ≤ s.length + JJ vx t
 | [], s => by simp [JJ]
 | n :: t, s => by
  have h := y8e t (kT s n)
  have h1 := vr n
  have h2 := y10 n
  have h3 : (kT s n).length = s.length + (yV n).length := List.length_append
  simp only [List.foldl_cons, zR]
  omega
theorem ydX (t : List Ya) : ((zh t).length : Int) ≤ JJ vx t := by
 have := y8e t []
 simpa [zh] using this
structure TOk (t : List y7) : Prop where
 len : t.length ≤ 1048576
 nodes : ∀ n ∈ t, List.length n ≤ 1073741824
 sum : JJ vx t ≤ 1048576
theorem TOk.keys {t : List y7} (h : TOk t) : (zh t).length ≤ 1048576 := by
 have h1 := ydX t
 have h2 := h.sum
 omega
theorem y45 (q : List Int) (t : List y7) (blk : Int) (ht : TOk t) : wT (q, t, blk) = some (vX (zh t) blk) := by
 unfold wT Q1
 have hk := ht.keys
 have e : yJ (q, t) = some (zh t) := YG q t (by have := ht.len; omega) ht.nodes ht.sum
 simp only [e, Option.bind_some]
 generalize zh t = ks at hk
 refine zS (step := jB _) (fun (i : Int) (s : List y8) => (blk, i, s, ks)) (fun s => some s) z0 (y11 blk) ks (by omega) (fun i s => s.length ≤ i) ?_ ?_ [] (by simp)
 ·intro again i s h0 h1 hI
  have hw : Go.IntKind.wrap .i64 (i + 1) = i + 1 := w64 (by omega) (by omega)
  have hs := y1v blk s (ks.getD i.toNat z0)
  refine ⟨?_, by omega⟩
  have c1 : (s.length + 1) * 40 < 140737488355328 := by omega
  clear hs
  unfold jB y11
  obtain ⟨⟨x1, x2, x3, x4, x5⟩, hx⟩ : ∃ x, y0 ks i = x := ⟨_, rfl⟩
  have hx' : ks.getD i.toNat z0 = (x1, x2, x3, x4, x5) := hx
  rw [hx']
  simp only [Bool.cond_eq_ite, decide_eq_true_eq, h0, h1, if_true, hw, hx, List.length_cons, List.length_nil, Nat.zero_add, c1]
  by_cases h3 : (x1 == blk) = true
  ·rw [if_pos h3, if_pos h3]
  ·rw [if_neg h3, if_neg h3]
 ·intro again i s hi
  unfold jB
  simp only [Bool.cond_eq_ite, decide_eq_true_eq, if_neg hi]
theorem y46 (q : List Int) (t : List y7) (blk : Int) (ht : TOk t) : Wj (q, t, blk) = some (vX (zh t) blk) := by
 unfold Wj Qh
 have hk := ht.keys
 have e : zg (q, t) = some (zh t) := JW q t (by have := ht.len; omega) ht.nodes ht.sum
 simp only [e, Option.bind_some]
 generalize zh t = ks at hk
 refine zS (step := jP _) (fun (i : Int) (s : List y8) => (blk, (ks.length : Int), i, s, ks)) (fun s => some s) z0 (y11 blk) ks (by omega) (fun i s => s.length ≤ i) ?_ ?_ [] (by simp)
 ·intro again i s h0 h1 hI
  have hw : Go.IntKind.wrap .i64 (i + 1) = i + 1 := w64 (by omega) (by omega)
  have hs := y1v blk s (ks.getD i.toNat z0)
  refine ⟨?_, by omega⟩
  have c1 : (s.length + 1) * 40 < 140737488355328 := by omega
  clear hs
  unfold jP y11
  obtain ⟨⟨x1, x2, x3, x4, x5⟩, hx⟩ : ∃ x, y0 ks i = x := ⟨_, rfl⟩
  have hx' : ks.getD i.toNat z0 = (x1, x2, x3, x4, x5) := hx
  rw [hx']
  simp only [Bool.cond_eq_ite, decide_eq_true_eq, h0, h1, if_true, hw, hx, List.length_cons, List.length_nil, Nat.zero_add, c1]
  by_cases h3 : (x1 == blk) = true
  ·rw [if_pos h3, if_pos h3]
  ·rw [if_neg h3, if_neg h3]
 ·intro again i s hi
  unfold jP
  simp only [Bool.cond_eq_ite, decide_eq_true_eq, if_neg hi]
def y0t (path : List Int) (s : Bool × y8) (a : y8) : Bool × y8 := if yks path a.2.1 = true ∧ (s.1 = false ∨ s.2.2.1 < a.2.1) then (true, a) else s
def Qp (ks : List y8) (path : List Int) : Bool × y8 := ks.foldl (y0t path) (false, (0, 0, 0, 0, 0))
def ans (r : Bool × y8) : Int × Int × Int × Int × Int × Bool := (r.2.1, r.2.2.1, r.2.2.2.1, r.2.2.2.2.1, r.2.2.2.2.2, r.1)
theorem y21 (q : List Int) (t : List y7) (blk : Int) (path : List Int) (ht : TOk t) (hp : path.length ≤ 1073741824) : ZD (q, t, blk, path) = some (ans (Qp (vX (zh t) blk) path)) := by
 unfold ZD Q2
 have hk : (vX (zh t) blk).length ≤ 1048576 := by
  have h1 := y3B blk (zh t) []
  have h2 := ht.keys
  unfold vX
  simp only [List.length_nil] at h1
  omega
 simp only [y45 q t blk ht, Option.bind_some]
 generalize vX (zh t) blk = ks at hk
 refine (zS (step := jC _) (fun (i : Int) (s : Bool × y8) => (path, s.1, i, 0, 0, 0, 0, 0, s.2.1, s.2.2.1, s.2.2.2.1, s.2.2.2.2.1, s.2.2.2.2.2, ks)) (fun s => some (ans s)) z0 (y0t path) ks (by omega) (fun _ _ => True) ?_ ?_ (false, (0, 0, 0, 0, 0)) trivial)
 ·rintro again i ⟨f, b1, b2, b3, b4, b5⟩ h0 h1 _
  have hw : Go.IntKind.wrap .i64 (i + 1) = i + 1 := w64 (by omega) (by omega)
  refine ⟨?_, trivial⟩
  unfold jC y0t
  obtain ⟨⟨x1, x2, x3, x4, x5⟩, hx⟩ : ∃ x, y0 ks i = x := ⟨_, rfl⟩
  have hx' : ks.getD i.toNat z0 = (x1, x2, x3, x4, x5) := hx
  rw [hx']
  have e := ya4 path x2 hp
  simp only [Bool.cond_eq_ite, decide_eq_true_eq, h0, h1, if_true, hw, hx, e, Option.bind_some]
  cases yks path x2 <;> cases f <;> by_cases hb : b2 < x2 <;> simp [hb]
 ·rintro again i ⟨f, b1, b2, b3, b4, b5⟩ hi
  unfold jC
  simp only [Bool.cond_eq_ite, decide_eq_true_eq, if_neg hi]
  rfl
theorem y06 (q : List Int) (t : List y7) (blk : Int) (path : List Int) (ht : TOk t) (hp : path.length ≤ 1073741824) : ZF (q, t, blk, path) = some (ans (Qp (vX (zh t) blk) path)) := by
 unfold ZF Qi
 have hk : (vX (zh t) blk).length ≤ 1048576 := by
  have h1 := y3B blk (zh t) []
  have h2 := ht.keys
  unfold vX
  simp only [List.length_nil] at h1
  omega
 simp only [y46 q t blk ht, Option.bind_some]
 generalize vX (zh t) blk = ks at hk
 refine (zS (step := jQ _) (fun (i : Int) (s : Bool × y8) => (path, s.1, (ks.length : Int), i, 0, 0, 0, 0, 0, s.2.1, s.2.2.1, s.2.2.2.1, s.2.2.2.2.1, s.2.2.2.2.2, ks)) (fun s => some (ans s)) z0 (y0t path) ks (by omega) (fun _ _ => True) ?_ ?_ (false, (0, 0, 0, 0, 0)) trivial)
 ·rintro again i ⟨f, b1, b2, b3, b4, b5⟩ h0 h1 _
  have hw : Go.IntKind.wrap .i64 (i + 1) = i + 1 := w64 (by omega) (by omega)
  refine ⟨?_, trivial⟩
  unfold jQ y0t
  obtain ⟨⟨x1, x2, x3, x4, x5⟩, hx⟩ : ∃ x, y0 ks i = x := ⟨_, rfl⟩
  have hx' : ks.getD i.toNat z0 = (x1, x2, x3, x4, x5) := hx
  rw [hx']
  have e := ya5 path x2 hp
  simp only [Bool.cond_eq_ite, decide_eq_true_eq, h0, h1, if_true, hw, hx, e, Option.bind_some]
  cases yks path x2 <;> cases f <;> by_cases hb : b2 < x2 <;> simp [hb]
 ·rintro again i ⟨f, b1, b2, b3, b4, b5⟩ hi
  unfold jQ
  simp only [Bool.cond_eq_ite, decide_eq_true_eq, if_neg hi]
  rfl
def yc6 (t : List y7) (l : List yf) (blk id : Int) : Bool × y8 := Qp (vX (zh t) blk) (y03 l id)
theorem QJ (l : List yf) (id : Int) (hl : l.length ≤ 1048576) : (y03 l id).length ≤ 1073741824 := by
 have := y8d l (l.length + 1) (Y5 l id)
 unfold y03
 omega
theorem y8f (q : List Int) (t : List y7) (l : List yf) (blk id : Int) (ht : TOk t) (hl : l.length ≤ 1048576) : KY (q, t, l, blk, id) = some (ans (yc6 t l blk id)) := by
 unfold KY
 simp only [y04 l id hl, y21 q t blk _ ht (QJ l id hl), Option.bind_some]
 rfl
theorem y8g (q : List Int) (t : List y7) (l : List yf) (blk id : Int) (ht : TOk t) (hl : l.length ≤ 1048576) : vk (q, t, l, blk, id) = some (ans (yc6 t l blk id)) := by
 unfold vk
 simp only [y05 l id hl, y06 q t blk _ ht (QJ l id hl), Option.bind_some]
 rfl
def ya6 (t : List y7) (l : List yf) (k : y8) (id : Int) : Bool := (yc6 t l k.1 id).1 && ((yc6 t l k.1 id).2.2.1 == k.2.1)
theorem y8h (q : List Int) (t : List y7) (l : List yf) (k1 k2 k3 k4 k5 id : Int) (ht : TOk t) (hl : l.length ≤ 1048576) : KZ (q, t, l, k1, k2, k3, k4, k5, id) = some (ya6 t l (k1, k2, k3, k4, k5) id) := by
 unfold KZ ya6
 simp only [y8f q t l k1 id ht hl, Option.bind_some, ans]
 cases (yc6 t l k1 id).1 <;> rfl
theorem y8i (q : List Int) (t : List y7) (l : List yf) (k1 k2 k3 k4 k5 id : Int) (ht : TOk t) (hl : l.length ≤ 1048576) : vl (q, t, l, k1, k2, k3, k4, k5, id) = some (ya6 t l (k1, k2, k3, k4, k5) id) := by
 unfold vl ya6
 simp only [y8g q t l k1 id ht hl, Option.bind_some, ans]
 cases (yc6 t l k1 id).1 <;> rfl
def y0u (t : List y7) (l : List yf) (k : y8) (v : yF) : Bool := decide (v.2.2.1 > k.1) && ya6 t l k v.2.1
def y3C (t : List y7) (l : List yf) (vs : List yF) (k : y8) : Bool := decide (0 ≤ Z5 (y0u t l k) vs 0)
theorem y1w (q : List Int) (t : List y7) (l : List yf) (cs : List yg) (vs : List yF) (z k1 k2 k3 k4 k5 : Int) (ht : TOk t) (hl : l.length ≤ 1048576) (hv : vs.length ≤ 1048576) : ZO (q, t, l, cs, vs, z, k1, k2, k3, k4, k5) = some (y3C t l vs (k1, k2, k3, k4, k5)) := by
 unfold ZO vO
 refine (YZ (step := YM _ _) (fun i => (i, q, t, l, cs, vs, z, k1, k2, k3, k4, k5)) (y0u t l (k1, k2, k3, k4, k5)) (fun _ => some true) (some false) K8 vs (by omega) ?_ ?_).trans ?_
 ·intro again i h0 h1
  have hw : Go.IntKind.wrap .i64 (i + 1) = i + 1 := w64 (by omega) (by omega)
  unfold YM y0u
  obtain ⟨⟨x1, x2, x3, x4⟩, hx⟩ : ∃ x, zd vs i = x := ⟨_, rfl⟩
  have hx' : vs.getD i.toNat K8 = (x1, x2, x3, x4) := hx
  rw [hx']
  have e := y8h q t l k1 k2 k3 k4 k5 x2 ht hl
  simp only [Bool.cond_eq_ite, decide_eq_true_eq, h0, h1, if_true, hw, hx, e, Option.bind_some]
  by_cases hb : x3 > k1 <;> cases ya6 t l (k1, k2, k3, k4, k5) x2 <;> simp [hb]
 ·intro again i hi
  unfold YM
  simp only [Bool.cond_eq_ite, decide_eq_true_eq, if_neg hi]
 ·unfold y3C
  by_cases h : Z5 (y0u t l (k1, k2, k3, k4, k5)) vs 0 < 0
  ·rw [if_pos h, decide_eq_false (by omega)]
  ·rw [if_neg h, decide_eq_true (by omega)]
theorem y1x (q : List Int) (t : List y7) (l : List yf) (cs : List yg) (vs : List yF) (z k1 k2 k3 k4 k5 : Int) (ht : TOk t) (hl : l.length ≤ 1048576) (hv : vs.length ≤ 1048576) : ZU (q, t, l, cs, vs, z, k1, k2, k3, k4, k5) = some (y3C t l vs (k1, k2, k3, k4, k5)) := by
 unfold ZU vU
 refine (YZ (step := YV _ _) (fun i => (vs, (vs.length : Int), i, q, t, l, cs, vs, z, k1, k2, k3, k4, k5)) (y0u t l (k1, k2, k3, k4, k5)) (fun _ => some true) (some false) K8 vs (by omega) ?_ ?_).trans ?_
 ·intro again i h0 h1
  have hw : Go.IntKind.wrap .i64 (i + 1) = i + 1 := w64 (by omega) (by omega)
  unfold YV y0u
  obtain ⟨⟨x1, x2, x3, x4⟩, hx⟩ : ∃ x, zd vs i = x := ⟨_, rfl⟩
  have hx' : vs.getD i.toNat K8 = (x1, x2, x3, x4) := hx
  rw [hx']
  have e := y8i q t l k1 k2 k3 k4 k5 x2 ht hl
  simp only [Bool.cond_eq_ite, decide_eq_true_eq, h0, h1, if_true, hw, hx, e, Option.bind_some]
  by_cases hb : x3 > k1 <;> cases ya6 t l (k1, k2, k3, k4, k5) x2 <;> simp [hb]
 ·intro again i hi
  unfold YV
  simp only [Bool.cond_eq_ite, decide_eq_true_eq, if_neg hi]
 ·unfold y3C
  by_cases h : Z5 (y0u t l (k1, k2, k3, k4, k5)) vs 0 < 0
  ·rw [if_pos h, decide_eq_false (by omega)]
  ·rw [if_neg h, decide_eq_true (by omega)]
end Go.Proofs.YtmapoakbdgpamaaGreat.Pl
namespace Go.Proofs.YtmapoakbdgpamaaGreat.Pl
open Go.Proofs.YtmapoakbdgpamaaGreat.R Go.Proofs.YtmapoakbdgpamaaGreat.XP
theorem y8j (o : Option Int) (n w : Int) (k : Int → Option Int) (h : ydM n w o) : (Option.bind o fun r => bif (decide (r < (0 : Int))) then some (-1 : Int) else k r) = some (-1) ∨ (0 ≤ n - w ∧ (Option.bind o fun r => bif (decide (r < (0 : Int))) then some (-1 : Int) else k r) = k (n - w)) := by
 obtain ⟨r, rfl, hc⟩ := h
 simp only [Option.bind_some, Bool.cond_eq_ite, decide_eq_true_eq]
 rcases hc with hc | ⟨h0, h1⟩
 ·exact .inl (if_pos hc)
 ·subst h1
  exact .inr ⟨h0, if_neg (by omega)⟩
def small (is : List yh) (ns : List Ya) (ags : List kZ) (cs : List Jh) (vs : List Jn) : Prop :=
 is.length ≤ 1048576 ∧ ns.length ≤ 1048576 ∧ JJ vx ns ≤ 1048576 ∧ ags.length ≤ 1048576 ∧ cs.length ≤ 1048576 ∧ vs.length ≤ 1048576
theorem yc7 (m : Int) (m0 : 0 ≤ m) (m1 : m ≤ 1048576) (is : List yh) (ns : List Ya) (ags : List kZ) (cs : List Jh) (vs : List Jn) (z : Int) (hi : is.length ≤ maxLen) (hn : ns.length ≤ maxLen) (hnn : ∀ a ∈ ns, List.length a ≤ maxLen ∧ ∀ b ∈ (show List za from a), List.length b ≤ maxLen)
  (ha : ags.length ≤ maxLen) (hc : cs.length ≤ maxLen) (hv : vs.length ≤ maxLen) (hvv : ∀ a ∈ vs, ByteArray.size a.1 ≤ maxLen) : ∃ r, jZ (is, ns, ags, cs, vs, z, m) = some r ∧ (r < 0 ∨ small is ns ags cs vs) := by
 have hT : jY (is, ns, m) = some (-1) ∨ ∃ r, jY (is, ns, m) = some r ∧ 0 ≤ r ∧ r ≤ 1048576 ∧ is.length ≤ 1048576 ∧ ns.length ≤ 1048576 ∧ JJ vx ns ≤ 1048576 := by
  unfold jY
  rcases y8j _ _ _ (fun r1 => Option.bind (j7 (ns, r1)) fun r2 => bif (decide (r2 < (0 : Int))) then some (-1 : Int) else some r2) (ydR is hi m m0 m1) with h | ⟨h0, h⟩
  ·exact .inl h
  ·have hw := ZG jT ns
   rcases y8j _ _ _ (fun r2 => some r2) (yc5 ns hn hnn (m - (is.length : Int)) h0 (by omega)) with h' | ⟨h0', h'⟩
   ·exact .inl (h.trans h')
   ·refine .inr ⟨_, h.trans h', h0', by omega, by omega, by omega, by omega⟩
 unfold jZ
 rcases hT with hT | ⟨r, hT, r0, r1, i1, n1, n2⟩
 ·rw [hT]
  exact ⟨-1, rfl, .inl (by omega)⟩
 ·simp only [hT, Option.bind_some]
  rw [Bool.cond_eq_ite, if_neg (by simp; omega)]
  rcases y8j _ _ _ (fun r2 => Option.bind (Jp (cs, r2)) fun r3 => bif (decide (r3 < (0 : Int))) then some (-1 : Int) else Option.bind (Zv (vs, r3)) fun r4 => bif (decide (r4 < (0 : Int))) then some (-1 : Int) else some r4) (ydT ags ha r r0 r1) with h | ⟨h0, h⟩
  ·exact ⟨-1, h, .inl (by omega)⟩
  ·rcases y8j _ _ _ (fun r3 => Option.bind (Zv (vs, r3)) fun r4 => bif (decide (r4 < (0 : Int))) then some (-1 : Int) else some r4) (yc3 cs hc (r - (ags.length : Nat)) h0 (by omega)) with h' | ⟨h0', h'⟩
   ·exact ⟨-1, h.trans h', .inl (by omega)⟩
   ·have hw := ZG (w := fun a : Jn => (ByteArray.size a.1 : Int)) (fun a => Int.natCast_nonneg _) vs
    rcases y8j _ _ _ (fun r4 => some r4) (ydV vs hv hvv (r - (ags.length : Nat) - (cs.length : Nat)) h0' (by omega)) with h'' | ⟨h0'', h''⟩
    ·exact ⟨-1, h.trans (h'.trans h''), .inl (by omega)⟩
    ·exact ⟨_, h.trans (h'.trans h''), .inr ⟨i1, n1, n2, by omega, by omega, by omega⟩⟩
theorem ydY (is : List yh) (ns : List Ya) (ags : List kZ) (cs : List Jh) (vs : List Jn) (z : Int) (hi : is.length ≤ maxLen) (hn : ns.length ≤ maxLen) (hnn : ∀ a ∈ ns, List.length a ≤ maxLen ∧ ∀ b ∈ (show List za from a), List.length b ≤ maxLen)
  (ha : ags.length ≤ maxLen) (hc : cs.length ≤ maxLen) (hv : vs.length ≤ maxLen) (hvv : ∀ a ∈ vs, ByteArray.size a.1 ≤ maxLen) : ∃ r, jZ (is, ns, ags, cs, vs, z, 1048576) = some r ∧ (r < 0 ∨ small is ns ags cs vs) := yc7 1048576 (by omega) (by omega) is ns ags cs vs z hi hn hnn ha hc hv hvv
theorem kb {ns : List Ya} (h : JJ vx ns ≤ 1048576) {n : List za} (hn : n ∈ ns) : n.length ≤ 1048576 ∧ ∀ s ∈ n, List.length s ≤ 1048576 := by
 have h1 := (QE jT hn).1
 have h2 := ZG ka n
 have h3 : vx n = (List.length n : Int) + JJ VB n := rfl
 refine ⟨by omega, fun s hs => ?_⟩
 have h4 := (QE ka hs).1
 have h5 : VB s = (List.length s : Int) := rfl
 omega
theorem ydZ (is : List yh) (ns : List Ya) (ags : List kZ) (cs : List Jh) (vs : List Jn) (z : Int) (h : small is ns ags cs vs) : Zy (is, ns, ags, cs, vs, z) = some (is, ns, ags, cs, vs, z) := by
 obtain ⟨h1, h2, h3, h4, h5, h6⟩ := h
 have hN : j8 ns = some ns := yc2 ns h2 fun a ha => by
  have hs := kb h3 ha
  unfold J0
  rw [yc1 a hs.1 fun b hb => ydO b (hs.2 b hb)]
  rfl
 unfold Zy Kb
 simp only [ydN is h1, hN, ydP ags h4, yc0 cs h5, ydQ vs h6, Option.bind_some]
theorem ya7 (is : List yh) (ns : List Ya) (ags : List kZ) (cs : List Jh) (vs : List Jn) (z : Int) (h : small is ns ags cs vs) : wH (is, ns, ags, cs, vs, z, is, ns, ags, cs, vs, z) = some true := by
 obtain ⟨h1, h2, h3, h4, h5, h6⟩ := h
 have hN : j9 (ns, ns) = some true := y89 ns h2 fun a ha => by
  have hs := kb h3 ha
  unfold J1
  rw [y88 a hs.1 fun b hb => ya1 b (hs.2 b hb)]
  rfl
 unfold wH Kd
 simp only [ya0 is h1, hN, ya2 ags h4, y87 cs h5, ya3 vs h6, Option.bind_some, Bool.not_true, cond_false, bne_self_eq_false]
end Go.Proofs.YtmapoakbdgpamaaGreat.Pl
namespace Go.Proofs.YtmapoakbdgpamaaGreat.Pl
open Go.Proofs.YtmapoakbdgpamaaGreat.R Go.Proofs.YtmapoakbdgpamaaGreat.XP
def Yj {A : Type} (p : Int → A → Bool) : List A → Int → Bool
 | [], _ => false
 | a :: l, i => p i a || Yj p l (i + 1)
theorem ya8 {A : Type} (p q : Int → A → Bool) : ∀ (l : List A) (i : Int), Yj (fun i a => p i a || q i a) l i = (Yj p l i || Yj q l i)
 | [], _ => rfl
 | a :: l, i => by
  rw [Yj, Yj, Yj, ya8 p q l (i + 1)]
  cases p i a <;> cases q i a <;> cases Yj p l (i + 1) <;> rfl
theorem y4R {A : Type} {p q : Int → A → Bool} : ∀ (l : List A) (i : Int), (∀ j a, i ≤ j → p j a = q j a) → Yj p l i = Yj q l i
 | [], _, _ => rfl
 | a :: l, i, h => by rw [Yj, Yj, h i a (Int.le_refl _), y4R l (i + 1) (fun j a hj => h j a (by omega))]
theorem y2L {A S R : Type} (p : Int → A → Bool) (f : S → A → S) (r : Option R) (k : S → Option R) : ∀ (l : List A) (i : Int) (s : S), y8a (fun i s a => if p i a = true then .error r else .ok (f s a)) k l i s = if Yj p l i = true then r else k (l.foldl f s)
 | [], _, _ => by simp [y8a, Yj]
 | a :: l, i, s => by
  rw [y8a, Yj]
  by_cases h : p i a = true
  ·simp [h]
  ·have hf : p i a = false := by simpa using h
   simp only [hf, Bool.false_eq_true, if_false, Bool.false_or, List.foldl_cons]
   exact y2L p f r k l (i + 1) (f s a)
theorem y3D {T A S R : Type} {step : (T → Option R) → T → Option R} (mk : Int → S → T) (g : Int → S → A → Except (Option R) S) (k : S → Option R) (da : A) (l : List A) (hl : l.length ≤ 1099511627776) (I : Nat → S → Prop)
  (h : ∀ again i s, 0 ≤ i → i < (l.length : Int) → I i.toNat s → (step again (mk i s) = match g i s (l.getD i.toNat da) with
   | .error r => r
   | .ok s' => again (mk (i + 1) s')) ∧ ∀ s', g i s (l.getD i.toNat da) = .ok s' → I (i.toNat + 1) s')
  (hd : ∀ again i s, ¬ i < (l.length : Int) → step again (mk i s) = k s) (i0 : Int) (h00 : 0 ≤ i0) (s : S) (hs : I i0.toNat s) : zt step zJ (mk i0 s) = y8a g k (l.drop i0.toNat) i0 s := by
 have key : ∀ (n : Nat) (i : Int) (s : S), 0 ≤ i → I i.toNat s → l.length - i.toNat < n → zt step n (mk i s) = y8a g k (l.drop i.toNat) i s := by
  intro n
  induction n with
  | zero => intro i s _ _ hn; omega
  | succ n ih =>
   intro i s h0 hI hn
   rw [zt]
   by_cases hi : i < (l.length : Int)
   ·obtain ⟨e, hI'⟩ := h (zt step n) i s h0 hi hI
    have e1 : (i + 1).toNat = i.toNat + 1 := by omega
    rw [e, Zm da l i h0 hi, y8a]
    cases hg : g i s (l.getD i.toNat da) with
    | error r => rfl
    | ok s' => exact ih (i + 1) s' (by omega) (by rw [e1]; exact hI' s' hg) (by omega)
   ·rw [hd _ i s hi, List.drop_of_length_le (by omega)]
    rfl
 exact key zJ i0 s h00 hs (by rw [y0n]; omega)
theorem y2M {T A S R : Type} {step : (T → Option R) → T → Option R} (mk : Int → S → T) (p : Int → A → Bool) (f : S → A → S) (r : Option R) (k : S → Option R) (da : A) (l : List A) (hl : l.length ≤ 1099511627776)
  (h : ∀ again i s, 0 ≤ i → i < (l.length : Int) → step again (mk i s) = if p i (l.getD i.toNat da) = true then r else again (mk (i + 1) (f s (l.getD i.toNat da))))
  (hd : ∀ again i s, ¬ i < (l.length : Int) → step again (mk i s) = k s) (s : S) : zt step zJ (mk 0 s) = if Yj p l 0 = true then r else k (l.foldl f s) := by
 rw [← y2L p f r k l 0 s]
 have := y3D (step := step) mk (fun i s a => if p i a = true then .error r else .ok (f s a)) k da l hl (fun _ _ => True) (fun again i s h0 h1 _ => ⟨?_, fun _ _ => trivial⟩) hd 0 (Int.le_refl _) s trivial
 ·simpa using this
 ·rw [h again i s h0 h1]
  by_cases hp : p i (l.getD i.toNat da) = true
  ·rw [if_pos hp, if_pos hp]
  ·rw [if_neg hp, if_neg hp]
theorem zA {T A R : Type} {step : (T → Option R) → T → Option R} (mk : Int → T) (p : Int → A → Bool) (r k : Option R) (da : A) (l : List A) (hl : l.length ≤ 1099511627776)
  (h : ∀ again i, 0 ≤ i → i < (l.length : Int) → step again (mk i) = if p i (l.getD i.toNat da) = true then r else again (mk (i + 1)))
  (hd : ∀ again i, ¬ i < (l.length : Int) → step again (mk i) = k) : zt step zJ (mk 0) = if Yj p l 0 = true then r else k :=
 y2M (fun i (_ : Unit) => mk i) p (fun _ _ => ()) r (fun _ => k) da l hl (fun again i _ h0 h1 => h again i h0 h1) (fun again i _ hi => hd again i hi) ()
end Go.Proofs.YtmapoakbdgpamaaGreat.Pl
namespace Go.Proofs.YtmapoakbdgpamaaGreat.Pl
open Go.Proofs.YtmapoakbdgpamaaGreat.R Go.Proofs.YtmapoakbdgpamaaGreat.XP
def JK (k : y8) : Bool := inR k.1 0 15 && (inR k.2.1 1 60 && (inR k.2.2.1 0 2 && (if k.2.2.1 = 1 then inR k.2.2.2.1 0 23 && inR k.2.2.2.2 0 999 else (k.2.2.2.1 == 0) && (k.2.2.2.2 == 0))))
theorem y12 (a b c d e : Int) : wc (a, b, c, d, e) = some (JK (a, b, c, d, e)) := by
 unfold wc JK
 simp only [k9, Option.bind_some]
 by_cases hc : c = 1
 ·subst hc
  cases inR a 0 15 <;> cases inR b 1 60 <;> cases inR 1 0 2 <;> cases inR d 0 23 <;> rfl
 ·have hc' : (c == 1) = false := by simpa using hc
  rw [hc', if_neg hc]
  cases inR a 0 15 <;> cases inR b 1 60 <;> cases inR c 0 2 <;> cases (d == 0) <;> rfl
theorem y13 (a b c d e : Int) : we (a, b, c, d, e) = some (JK (a, b, c, d, e)) := by
 unfold we JK
 simp only [ZY, Option.bind_some]
 by_cases hc : c = 1
 ·subst hc
  cases inR a 0 15 <;> cases inR b 1 60 <;> cases inR 1 0 2 <;> cases inR d 0 23 <;> rfl
 ·have hc' : (c != 1) = true := by simpa using hc
  rw [hc', if_neg hc]
  cases inR a 0 15 <;> cases inR b 1 60 <;> cases inR c 0 2 <;> cases (d == 0) <;> rfl
def w4 (l : List y8) (i : Int) (a : y8) : Bool := decide (0 < i) && !VP (l.getD (i - 1).toNat z0) a
def qt (l : List y8) : Bool := !Yj (fun _ a => !JK a) l 0 && (!Yj (w4 l) l 0 && decide ((l.length : Int) ≤ 60))
theorem y6Y (l : List y8) (hl : l.length ≤ 1073741824) : Ju l = some (!Yj (w4 l) l 0) := by
 unfold Ju qh
 have key := y3D (step := ZH (fun x2 => some x2) (fun x3 => some true)) (fun i (_ : Unit) => (l, i)) (fun i (s : Unit) a => if (decide (0 < i) && !VP (l.getD (i - 1).toNat z0) a) = true ∨ i = 0 then .error (some false) else .ok s) (fun _ => some true) z0 l (by omega) (fun i _ => 1 ≤ i) ?_ ?_ 1 (by omega) () (by decide)
 ·rw [key]
  have h1 : Yj (w4 l) l 0 = Yj (w4 l) (l.drop 1) 1 := by
   cases l with
   | nil => rfl
   | cons a l => simp [Yj, w4]
  rw [h1]
  have h2 := y2L (fun i a => decide ((decide (0 < i) && !VP (l.getD (i - 1).toNat z0) a) = true ∨ i = 0)) (fun (s : Unit) _ => s) (some false) (fun _ => some true) (l.drop 1) 1 ()
  simp only [decide_eq_true_eq] at h2
  rw [show (1 : Int).toNat = 1 from rfl, h2]
  have h3 : Yj (fun i a => decide ((decide (0 < i) && !VP (l.getD (i - 1).toNat z0) a) = true ∨ i = 0)) (l.drop 1) 1 = Yj (w4 l) (l.drop 1) 1 := y4R _ _ fun j a hj => by
   unfold w4
   have : ¬ j = 0 := by omega
   simp [this]
  rw [h3]
  cases Yj (w4 l) (l.drop 1) 1 <;> rfl
 ·intro again i s h0 h1 hI
  have hi : 1 ≤ i := by
   have : (1 : Nat) ≤ i.toNat := hI
   omega
  have hw : Go.IntKind.wrap .i64 (i + 1) = i + 1 := w64 (by omega) (by omega)
  have hm : Go.IntKind.wrap .i64 (i - 1) = i - 1 := w64 (by omega) (by omega)
  refine ⟨?_, fun _ _ => by omega⟩
  unfold ZH
  obtain ⟨⟨x1, x2, x3, x4, x5⟩, hx⟩ : ∃ x, y0 l i = x := ⟨_, rfl⟩
  have hx' : l.getD i.toNat z0 = (x1, x2, x3, x4, x5) := hx
  obtain ⟨⟨y1, y2, y3, y4, y5⟩, hy⟩ : ∃ y, y0 l (i - 1) = y := ⟨_, rfl⟩
  have hy' : l.getD (i - 1).toNat z0 = (y1, y2, y3, y4, y5) := hy
  rw [hx', hy']
  have h3 : 0 ≤ i - 1 := by omega
  have h4 : i - 1 < (l.length : Int) := by omega
  have h5 : 0 < i := by omega
  have h6 : ¬ i = 0 := by omega
  simp only [Bool.cond_eq_ite, decide_eq_true_eq, h0, h1, if_true, hw, hm, hx, hy, h3, h4, h5, h6, Qm, Option.bind_some, decide_true, Bool.true_and, or_false]
  cases VP (y1, y2, y3, y4, y5) (x1, x2, x3, x4, x5) <;> rfl
 ·intro again i s hi
  unfold ZH
  simp only [Bool.cond_eq_ite, decide_eq_true_eq, if_neg hi]
theorem y6Z (l : List y8) (hl : l.length ≤ 1073741824) : ku l = some (qt l) := by
 unfold ku QX qt
 refine (zA (step := Jv _ _) (fun i => (l, i)) (fun _ a => !JK a) (some false) (some (!Yj (w4 l) l 0 && decide ((l.length : Int) ≤ 60))) z0 l (by omega) ?_ ?_).trans ?_
 ·intro again i h0 h1
  have hw : Go.IntKind.wrap .i64 (i + 1) = i + 1 := w64 (by omega) (by omega)
  unfold Jv
  obtain ⟨⟨x1, x2, x3, x4, x5⟩, hx⟩ : ∃ x, y0 l i = x := ⟨_, rfl⟩
  have hx' : l.getD i.toNat z0 = (x1, x2, x3, x4, x5) := hx
  rw [hx']
  simp only [Bool.cond_eq_ite, decide_eq_true_eq, h0, h1, if_true, hw, hx, y12, Option.bind_some]
 ·intro again i hi
  unfold Jv
  simp only [Bool.cond_eq_ite, decide_eq_true_eq, if_neg hi, y6Y l hl, Option.bind_some]
  cases Yj (w4 l) l 0 <;> rfl
 ·cases Yj (fun _ a => !JK a) l 0 <;> rfl
theorem y70 (l : List y8) (hl : l.length ≤ 1073741824) : kw l = some (qt l) := by
 unfold kw y01 qt
 refine (zA (step := JD _ _) (fun i => (l, l, (l.length : Int), i)) (fun i a => !JK a || w4 l i a) (some false) (some (decide ((l.length : Int) ≤ 60))) z0 l (by omega) ?_ ?_).trans ?_
 ·intro again i h0 h1
  have hw : Go.IntKind.wrap .i64 (i + 1) = i + 1 := w64 (by omega) (by omega)
  have hm : Go.IntKind.wrap .i64 (i - 1) = i - 1 := w64 (by omega) (by omega)
  unfold JD w4
  obtain ⟨⟨x1, x2, x3, x4, x5⟩, hx⟩ : ∃ x, y0 l i = x := ⟨_, rfl⟩
  have hx' : l.getD i.toNat z0 = (x1, x2, x3, x4, x5) := hx
  obtain ⟨⟨y1, y2, y3, y4, y5⟩, hy⟩ : ∃ y, y0 l (i - 1) = y := ⟨_, rfl⟩
  have hy' : l.getD (i - 1).toNat z0 = (y1, y2, y3, y4, y5) := hy
  rw [hx', hy']
  simp only [Bool.cond_eq_ite, decide_eq_true_eq, h0, h1, if_true, hw, hm, hx, hy, y13, Qn, Option.bind_some]
  cases JK (x1, x2, x3, x4, x5)
  ·rfl
  ·by_cases h5 : 0 < i
   ·have h3 : 0 ≤ i - 1 := by omega
    have h4 : i - 1 < (l.length : Int) := by omega
    simp only [gt_iff_lt, h5, h3, h4, if_true, decide_true]
    cases VP (y1, y2, y3, y4, y5) (x1, x2, x3, x4, x5) <;> rfl
   ·simp [h5]
 ·intro again i hi
  unfold JD
  simp only [Bool.cond_eq_ite, decide_eq_true_eq, if_neg hi]
 ·rw [ya8]
  cases Yj (fun _ a => !JK a) l 0 <;> cases Yj (w4 l) l 0 <;> rfl
def y14 (_ : Int) (a : y9) : Bool := !qt a || ((List.length a : Int) == 0)
def y07 (s : Int) (a : y9) : Int := Go.IntKind.wrap .i64 (s + (List.length a : Int))
def Ye (n : List y9) : Bool := !Yj y14 n 0 && (decide ((n.length : Int) ≤ 3) && decide (n.foldl y07 0 ≤ 8))
theorem y71 (n : List y9) (hn : n.length ≤ 1073741824) : Jw n = some (n.foldl y07 0) := by
 unfold Jw qi
 refine zS (step := ZI _) (fun (i s : Int) => (s, i, n)) (fun s => some s) yM y07 n (by omega) (fun _ _ => True) ?_ ?_ 0 trivial
 ·intro again i s h0 h1 _
  have hw : Go.IntKind.wrap .i64 (i + 1) = i + 1 := w64 (by omega) (by omega)
  refine ⟨?_, trivial⟩
  unfold ZI
  simp only [Bool.cond_eq_ite, decide_eq_true_eq, h0, h1, if_true, hw]
  rfl
 ·intro again i s hi
  unfold ZI
  simp only [Bool.cond_eq_ite, decide_eq_true_eq, if_neg hi]
theorem Va (n : List y9) (hn : n.length ≤ 1073741824) (hm : ∀ s ∈ n, List.length s ≤ 1073741824) : zb n = some (Ye n) := by
 unfold zb qU Ye
 refine (zA (step := jr _ _) (fun i => (i, n)) y14 (some false) (some (decide ((n.length : Int) ≤ 3) && decide (n.foldl y07 0 ≤ 8))) yM n (by omega) ?_ ?_).trans ?_
 ·intro again i h0 h1
  have hw : Go.IntKind.wrap .i64 (i + 1) = i + 1 := w64 (by omega) (by omega)
  have e := y6Z (yj n i) (hm _ (zj yM n i h0 h1))
  unfold jr y14
  have hx : n.getD i.toNat yM = yj n i := rfl
  rw [hx]
  simp only [Bool.cond_eq_ite, decide_eq_true_eq, h0, h1, if_true, hw, e, Option.bind_some]
  cases qt (yj n i)
  ·rfl
  ·rfl
 ·intro again i hi
  unfold jr
  simp only [Bool.cond_eq_ite, decide_eq_true_eq, if_neg hi, y71 n hn, Option.bind_some]
  by_cases h3 : (n.length : Int) ≤ 3 <;> simp [h3]
 ·cases Yj y14 n 0 <;> rfl
theorem Vb (n : List y9) (hn : n.length ≤ 1073741824) (hm : ∀ s ∈ n, List.length s ≤ 1073741824) : zp n = some (Ye n) := by
 unfold zp Q8 Ye
 refine (y2M (step := jH _ _) (fun (i s : Int) => (s, n, (n.length : Int), i, n)) y14 y07 (some false) (fun s => some (decide ((n.length : Int) ≤ 3) && decide (s ≤ 8))) yM n (by omega) ?_ ?_ 0).trans ?_
 ·intro again i s h0 h1
  have hw : Go.IntKind.wrap .i64 (i + 1) = i + 1 := w64 (by omega) (by omega)
  have e := y70 (yj n i) (hm _ (zj yM n i h0 h1))
  unfold jH y14 y07
  have hx : n.getD i.toNat yM = yj n i := rfl
  rw [hx]
  simp only [Bool.cond_eq_ite, decide_eq_true_eq, h0, h1, if_true, hw, e, Option.bind_some]
  cases qt (yj n i)
  ·rfl
  ·rfl
 ·intro again i s hi
  unfold jH
  simp only [Bool.cond_eq_ite, decide_eq_true_eq, if_neg hi]
  by_cases h3 : (n.length : Int) ≤ 3 <;> simp [h3]
 ·cases Yj y14 n 0 <;> rfl
end Go.Proofs.YtmapoakbdgpamaaGreat.Pl
namespace Go.Proofs.YtmapoakbdgpamaaGreat.Pl
open Go.Proofs.YtmapoakbdgpamaaGreat.R Go.Proofs.YtmapoakbdgpamaaGreat.XP
def ya9 (a : y8) : Int := Go.IntKind.wrap .i64 (Go.IntKind.wrap .i64 ((64 : Int) * a.1) + a.2.1)
def ykt (q : List Int) (i : Int) (_ : Int) (a : y8) : Bool := decide (ya9 a < q.getD i.toNat 0) || (decide (i + 1 < (q.length : Int)) && decide (ya9 a ≥ q.getD (i + 1).toNat 0))
theorem TOk.node {t : List y7} (h : TOk t) {n : List y9} (hn : n ∈ t) : n.length ≤ 1048576 ∧ ∀ s ∈ n, List.length s ≤ 1048576 := kb h.sum hn
theorem TOk.sumK {t : List y7} (h : TOk t) {n : List y9} (hn : n ∈ t) : JJ VB n ≤ 1048576 := by
 have h1 := (QE jT hn).1
 have h2 := y10 n
 have h3 := h.sum
 omega
theorem yc8 {R : Type} (k0 : (Int × Bool × Int × List yh × List y7 × List y9) → Option R) (k1 : (Int × Int × List yh × List y7 × List y9) → Option R) (i k : Int) (q : List Int) (t : List y7) (n : List y9) (hk0 : 0 ≤ k) (hk : k < (n.length : Int)) (hi0 : 0 ≤ i) (hi : i < (q.length : Int)) (hq : q.length ≤ 1048576) (hs : List.length (yj n k) ≤ 1048576) :
  KN k0 k1 (i, k, 0, q, t, n) = if Yj (ykt q i) (yj n k) 0 = true then k0 (i, false, k, q, t, n) else k1 (i, k, q, t, n) := by
 unfold KN
 refine zA (step := jt k0 k1) (fun j => (i, k, j, q, t, n)) (ykt q i) _ _ z0 (yj n k) (by omega) ?_ ?_
 ·intro again j h0 h1
  have hw : Go.IntKind.wrap .i64 (j + 1) = j + 1 := w64 (by omega) (by omega)
  have hwi : Go.IntKind.wrap .i64 (i + 1) = i + 1 := w64 (by omega) (by omega)
  unfold jt ykt J3 J2 ya9
  obtain ⟨⟨x1, x2, x3, x4, x5⟩, hx⟩ : ∃ x, y0 (yj n k) j = x := ⟨_, rfl⟩
  have hx' : (yj n k).getD j.toNat z0 = (x1, x2, x3, x4, x5) := hx
  have e1 : q.getD i.toNat 0 = z9 q i := rfl
  have e2 : q.getD (i + 1).toNat 0 = z9 q (i + 1) := rfl
  rw [hx', e1, e2]
  have hi1 : 0 ≤ i + 1 := by omega
  simp only [Bool.cond_eq_ite, decide_eq_true_eq, h0, h1, hk0, hk, hi0, hi, hi1, if_true, hw, hwi, hx, Option.bind_some]
  by_cases h2 : Go.IntKind.wrap .i64 (Go.IntKind.wrap .i64 ((64 : Int) * x1) + x2) < z9 q i
  ·simp [h2]
  ·by_cases h3 : i + 1 < (q.length : Int)
   ·simp [h2, h3]
   ·simp [h2, h3]
 ·intro again j hj
  unfold jt
  simp only [Bool.cond_eq_ite, decide_eq_true_eq, hk0, hk, if_true, if_neg hj]
def ye0 (q : List Int) (i : Int) (_ : Int) (s : y9) : Bool := Yj (ykt q i) s 0
def ye1 (n : y7) : Bool := ((yV n).length : Int) == 0
def yaa (q : List Int) (i : Int) (n : y7) : Bool := Ye n && (!(decide (0 < i) && ye1 n) && !Yj (ye0 q i) n 0)
theorem y47 (q : List Int) (t : List y7) (i : Int) (ht : TOk t) (hi0 : 0 ≤ i) (hi : i < (t.length : Int)) (hq : q.length = t.length) : wN (q, t, i) = some (yaa q i (ya t i)) := by
 have hmem : ya t i ∈ t := zj yr t i hi0 hi
 obtain ⟨hn, hs⟩ := ht.node hmem
 have hlen := ht.len
 have hq1 : i < (q.length : Int) := by omega
 have hq2 : q.length ≤ 1048576 := by omega
 have e1 := Va (ya t i) (by omega) (fun s hh => by have := hs s hh; omega)
 have e2 : yx (ya t i) = some (yV (ya t i)) := YF _ (by omega) (ht.sumK hmem)
 unfold wN yaa ye1
 simp only [hi0, hi, if_true, e1, Option.bind_some]
 generalize ya t i = n at *
 cases Ye n
 ·rfl
 ·have key : KP (fun x10 => some x10) (fun x11 => some true) (i, 0, q, t, n) = some (!Yj (ye0 q i) n 0) := by
   unfold KP
   refine (zA (step := ju _ _) (fun k => (i, k, q, t, n)) (ye0 q i) (some false) (some true) yM n (by omega) ?_ ?_).trans ?_
   ·intro again k h0 h1
    have hw : Go.IntKind.wrap .i64 (k + 1) = k + 1 := w64 (by omega) (by omega)
    have hsk : List.length (yj n k) ≤ 1048576 := hs _ (zj yM n k h0 h1)
    unfold ju ye0
    have hx : n.getD k.toNat yM = yj n k := rfl
    rw [hx]
    simp only [Bool.cond_eq_ite, decide_eq_true_eq, h1, if_true, yc8 _ _ i k q t n h0 h1 hi0 hq1 hq2 hsk, hw]
   ·intro again k hk
    unfold ju
    simp only [Bool.cond_eq_ite, decide_eq_true_eq, if_neg hk]
   ·cases Yj (ye0 q i) n 0 <;> rfl
  simp only [key, e2, Option.bind_some, Bool.not_true, cond_false, gt_iff_lt]
  by_cases h0 : 0 < i
  ·simp only [h0, decide_true, cond_true, Bool.true_and]
   cases (((yV n).length : Int) == 0) <;> rfl
  ·simp only [h0, decide_false, cond_false, Bool.false_and]
   rfl
theorem yc9 {R : Type} (k0 : (Int × Bool × List y9 × Int × Int × List yh × List y7) → Option R) (k1 : (Int × List y9 × Int × Int × List yh × List y7) → Option R) (i k m : Int) (q : List Int) (t : List y7) (n : List y9) (s : List y8) (hi0 : 0 ≤ i) (hi : i < (q.length : Int)) (hq : q.length ≤ 1048576) (hs : s.length ≤ 1048576) :
  WU k0 k1 (i, n, m, k, s, (s.length : Int), 0, q, t) = if Yj (ykt q i) s 0 = true then k0 (i, false, n, m, k, q, t) else k1 (i, n, m, k, q, t) := by
 unfold WU
 refine zA (step := Zf k0 k1) (fun j => (i, n, m, k, s, (s.length : Int), j, q, t)) (ykt q i) _ _ z0 s (by omega) ?_ ?_
 ·intro again j h0 h1
  have hw : Go.IntKind.wrap .i64 (j + 1) = j + 1 := w64 (by omega) (by omega)
  have hwi : Go.IntKind.wrap .i64 (i + 1) = i + 1 := w64 (by omega) (by omega)
  unfold Zf ykt YQ ya9
  obtain ⟨⟨x1, x2, x3, x4, x5⟩, hx⟩ : ∃ x, y0 s j = x := ⟨_, rfl⟩
  have hx' : s.getD j.toNat z0 = (x1, x2, x3, x4, x5) := hx
  have e1 : q.getD i.toNat 0 = z9 q i := rfl
  have e2 : q.getD (i + 1).toNat 0 = z9 q (i + 1) := rfl
  rw [hx', e1, e2]
  have hi1 : 0 ≤ i + 1 := by omega
  simp only [Bool.cond_eq_ite, decide_eq_true_eq, h0, h1, hi0, hi, hi1, if_true, hw, hwi, hx, Option.bind_some]
  by_cases h2 : Go.IntKind.wrap .i64 (Go.IntKind.wrap .i64 ((64 : Int) * x1) + x2) < z9 q i
  ·simp [h2]
  ·by_cases h3 : i + 1 < (q.length : Int)
   ·simp [h2, h3]
   ·simp [h2, h3]
 ·intro again j hj
  unfold Zf
  simp only [Bool.cond_eq_ite, decide_eq_true_eq, if_neg hj]
theorem y2j (q : List Int) (t : List y7) (i : Int) (ht : TOk t) (hi0 : 0 ≤ i) (hi : i < (t.length : Int)) (hq : q.length = t.length) : jI (q, t, i) = some (!Yj (ye0 q i) (ya t i) 0) := by
 have hmem : ya t i ∈ t := zj yr t i hi0 hi
 obtain ⟨hn, hs⟩ := ht.node hmem
 have hlen := ht.len
 have hq1 : i < (q.length : Int) := by omega
 have hq2 : q.length ≤ 1048576 := by omega
 unfold jI Vw
 simp only [hi0, hi, if_true]
 generalize ya t i = n at *
 refine (zA (step := Zg _ _) (fun k => (i, n, (n.length : Int), k, q, t)) (ye0 q i) (some false) (some true) yM n (by omega) ?_ ?_).trans ?_
 ·intro again k h0 h1
  have hw : Go.IntKind.wrap .i64 (k + 1) = k + 1 := w64 (by omega) (by omega)
  have hsk : List.length (yj n k) ≤ 1048576 := hs _ (zj yM n k h0 h1)
  unfold Zg ye0
  have hx : n.getD k.toNat yM = yj n k := rfl
  rw [hx]
  simp only [Bool.cond_eq_ite, decide_eq_true_eq, h0, h1, if_true, yc9 _ _ i k (n.length : Int) q t n _ hi0 hq1 hq2 hsk, hw]
 ·intro again k hk
  unfold Zg
  simp only [Bool.cond_eq_ite, decide_eq_true_eq, if_neg hk]
 ·cases Yj (ye0 q i) n 0 <;> rfl
def yku (q : List Int) (i : Int) : Bool := decide (0 < i) && decide (q.getD (i - 1).toNat 0 ≥ q.getD i.toNat 0)
def Qq (q : List Int) (i : Int) (n : y7) : Bool := yku q i || !yaa q i n
def y3E (s : Int) (n : y7) : Int := Go.IntKind.wrap .i64 (s + ((yV n).length : Int))
def YA (q : List Int) (t : List y7) : Bool :=
 inR (t.length : Int) 1 20 && (decide (q.length = t.length) && ((q.getD 0 0 == 0) && (!Yj (Qq q) t 0 && decide (((zh t).length : Int) ≤ 60))))
theorem ye2 : ∀ (t : List y7) (s : List y8), (s.length : Int) + JJ vx t ≤ 1048576 → t.foldl y3E (s.length : Int) = ((t.foldl kT s).length : Int)
 | [], _, _ => rfl
 | n :: t, s, h => by
  rw [zR] at h
  have h1 := vr n
  have h2 := y10 n
  have h3 := ZG jT t
  have h4 : (kT s n).length = s.length + (yV n).length := List.length_append
  rw [List.foldl_cons, List.foldl_cons, show y3E (s.length : Int) n = ((kT s n).length : Int) by
   unfold y3E
   rw [h4, w64 (by omega) (by omega)]
   omega]
  exact ye2 t (kT s n) (by rw [h4]; omega)
theorem Vc (q : List Int) (t : List y7) (ht : TOk t) : Y2 (q, t) = some (YA q t) := by
 have hlen := ht.len
 unfold Y2 YA
 simp only [k9, Option.bind_some]
 cases h1 : inR (t.length : Int) 1 20
 ·rfl
 by_cases hq : q.length = t.length
 ·have hq' : ((q.length : Int) != (t.length : Int)) = false := by simp [hq]
  have hpos : 0 < (q.length : Int) := by
   have := (k8.1 h1).1
   omega
  have hd : decide (q.length = t.length) = true := by simp [hq]
  simp only [hq', hd, Bool.not_true, cond_false, cond_true, Option.bind_some, Bool.true_and]
  rw [if_pos (Int.le_refl _), if_pos (by omega)]
  have e0 : z9 q 0 = q.getD 0 0 := rfl
  rw [e0]
  try simp only [Option.bind_some]
  by_cases hz : q.getD 0 0 = 0
  ·have hz1 : (q.getD 0 0 != 0) = false := by rw [hz]; rfl
   have hz2 : (q.getD 0 0 == 0) = true := by rw [hz]; rfl
   rw [hz1, hz2]
   simp only [cond_false, Bool.true_and]
   unfold qV
   refine (zA (step := jx _ _) (fun i => (i, q, t)) (Qq q) (some false) (some (decide (((zh t).length : Int) ≤ 60))) yr t (by omega) ?_ ?_).trans ?_
   ·intro again i h0 h1
    have hw : Go.IntKind.wrap .i64 (i + 1) = i + 1 := w64 (by omega) (by omega)
    have hm : Go.IntKind.wrap .i64 (i - 1) = i - 1 := w64 (by omega) (by omega)
    have e := y47 q t i ht h0 h1 hq
    unfold jx Qq yku
    have hx : t.getD i.toNat yr = ya t i := rfl
    have e1 : q.getD i.toNat 0 = z9 q i := rfl
    have e2 : q.getD (i - 1).toNat 0 = z9 q (i - 1) := rfl
    rw [hx, e1, e2]
    simp only [Bool.cond_eq_ite, decide_eq_true_eq, h0, h1, if_true, hw, hm, e, gt_iff_lt]
    by_cases h5 : 0 < i
    ·rw [if_pos h5, if_pos (by omega), if_pos (by omega), if_pos (by omega)]
     simp only [h5, decide_true, Option.bind_some, Bool.true_and]
     cases decide (z9 q (i - 1) ≥ z9 q i) <;> cases yaa q i (ya t i) <;> rfl
    ·rw [if_neg h5]
     simp only [h5, decide_false, Option.bind_some, Bool.false_and]
     cases yaa q i (ya t i) <;> rfl
   ·intro again i hi
    have e : yJ (q, t) = some (zh t) := YG q t (by omega) ht.nodes ht.sum
    unfold jx
    simp only [Bool.cond_eq_ite, decide_eq_true_eq, if_neg hi, e, Option.bind_some]
   ·cases Yj (Qq q) t 0 <;> rfl
  ·have hz1 : (q.getD 0 0 != 0) = true := by simpa using hz
   have hz2 : (q.getD 0 0 == 0) = false := by simpa using hz
   rw [hz1, hz2]
   rfl
 ·have hq' : ((q.length : Int) != (t.length : Int)) = true := by
   simp only [bne_iff_ne, ne_eq]
   omega
  have hd : decide (q.length = t.length) = false := by simp [hq]
  simp only [hq', hd, Bool.not_true, cond_false, cond_true, Option.bind_some, Bool.false_and, Bool.and_false]
theorem Vd (q : List Int) (t : List y7) (ht : TOk t) : Y4 (q, t) = some (YA q t) := by
 have hlen := ht.len
 unfold Y4 YA
 simp only [ZY, Option.bind_some]
 cases h1 : inR (t.length : Int) 1 20
 ·rfl
 by_cases hq : q.length = t.length
 ·have hq' : ((q.length : Int) != (t.length : Int)) = false := by simp [hq]
  have hpos : 0 < (q.length : Int) := by
   have := (k8.1 h1).1
   omega
  have hd : decide (q.length = t.length) = true := by simp [hq]
  simp only [hq', hd, Bool.not_true, cond_false, cond_true, Option.bind_some, Bool.true_and]
  rw [if_pos (Int.le_refl _), if_pos (by omega)]
  have e0 : z9 q 0 = q.getD 0 0 := rfl
  rw [e0]
  try simp only [Option.bind_some]
  by_cases hz : q.getD 0 0 = 0
  ·have hz1 : (q.getD 0 0 != 0) = false := by rw [hz]; rfl
   have hz2 : (q.getD 0 0 == 0) = true := by rw [hz]; rfl
   rw [hz1, hz2]
   simp only [cond_false, Bool.true_and]
   unfold Q9
   refine (y2M (step := jK _ _) (fun (i s : Int) => (s, t, (t.length : Int), i, q, t)) (Qq q) y3E (some false) (fun s => some (decide (s ≤ 60))) yr t (by omega) ?_ ?_ 0).trans ?_
   ·intro again i s h0 h1
    have hmem : ya t i ∈ t := zj yr t i h0 h1
    obtain ⟨hn, hss⟩ := ht.node hmem
    have hw : Go.IntKind.wrap .i64 (i + 1) = i + 1 := w64 (by omega) (by omega)
    have hm : Go.IntKind.wrap .i64 (i - 1) = i - 1 := w64 (by omega) (by omega)
    have e3 := Vb (ya t i) (by omega) (fun s hh => by have := hss s hh; omega)
    have e4 := y2j q t i ht h0 h1 hq
    have e5 : yG (ya t i) = some (yV (ya t i)) := ZZ _ (by omega) (ht.sumK hmem)
    unfold jK Qq yku yaa ye1 y3E
    have hx : t.getD i.toNat yr = ya t i := rfl
    have e1 : q.getD i.toNat 0 = z9 q i := rfl
    have e2 : q.getD (i - 1).toNat 0 = z9 q (i - 1) := rfl
    rw [hx, e1, e2]
    simp only [Bool.cond_eq_ite, decide_eq_true_eq, h0, h1, if_true, hw, hm, e3, e4, e5, gt_iff_lt, Option.bind_some]
    by_cases h5 : 0 < i
    ·rw [if_pos h5, if_pos (by omega), if_pos (by omega), if_pos (by omega)]
     simp only [h5, decide_true, Option.bind_some, Bool.true_and, if_true]
     cases decide (z9 q (i - 1) ≥ z9 q i) <;> cases Ye (ya t i) <;> cases Yj (ye0 q i) (ya t i) 0 <;> cases (((yV (ya t i)).length : Int) == 0) <;> rfl
    ·rw [if_neg h5]
     simp only [h5, decide_false, Option.bind_some, Bool.false_and, if_false]
     cases Ye (ya t i) <;> cases Yj (ye0 q i) (ya t i) 0 <;> rfl
   ·intro again i s hi
    unfold jK
    simp only [Bool.cond_eq_ite, decide_eq_true_eq, if_neg hi]
   ·have := ye2 t [] (by have := ht.sum; simpa using this)
    simp only [List.length_nil] at this
    rw [show ((0 : Nat) : Int) = 0 from rfl] at this
    rw [this]
    unfold zh
    cases Yj (Qq q) t 0 <;> rfl
  ·have hz1 : (q.getD 0 0 != 0) = true := by simpa using hz
   have hz2 : (q.getD 0 0 == 0) = false := by simpa using hz
   rw [hz1, hz2]
   rfl
 ·have hq' : ((q.length : Int) != (t.length : Int)) = true := by
   simp only [bne_iff_ne, ne_eq]
   omega
  have hd : decide (q.length = t.length) = false := by simp [hq]
  simp only [hq', hd, Bool.not_true, cond_false, cond_true, Option.bind_some, Bool.false_and, Bool.and_false]
end Go.Proofs.YtmapoakbdgpamaaGreat.Pl
namespace Go.Proofs.YtmapoakbdgpamaaGreat.Pl
open Go.Proofs.YtmapoakbdgpamaaGreat.R Go.Proofs.YtmapoakbdgpamaaGreat.XP
def isW (n : Int) : Bool := inR n 0 65535
theorem ye3 (x : Int) : wO x = some (isW x) := by unfold wO; rw [k9]; rfl
theorem ye4 (x : Int) : Wb x = some (isW x) := by unfold Wb; rw [ZY]; rfl
def y72 (c : Int) : Bool := inR c 97 122 || inR c 48 57
def VR (l : List UInt8) : Bool := l.all fun c => y72 (c.toNat : Int)
def y3F (s : ByteArray) : Bool := VR s.data.toList && inR s.size 1 6
theorem yb4 (c : UInt8) : Go.IntKind.wrap .i64 (c.toNat : Int) = c.toNat := by
 have := c.toNat_lt
 exact w64 (by omega) (by omega)
theorem yfM (s : ByteArray) (i : Nat) (h : i < s.size) : ByteArray.get s i h = s.data.toList[i]'(by rw [Array.length_toList]; exact h) := by
 rw [Array.getElem_toList]
 rfl
theorem y8k (s : ByteArray) (i : Nat) (h : i < s.size) : s.data.toList.drop i = ByteArray.get s i h :: s.data.toList.drop (i + 1) := by
 rw [yfM, ← List.drop_eq_getElem_cons]
theorem y48 (s : ByteArray) (hs : s.size ≤ maxLen) : wP s = some (y3F s) := by
 have hm : (s.size : Int) ≤ 9223372036854775807 := by simp only [maxLen] at hs; omega
 unfold wP qX
 rw [Yi (fun t : ByteArray × Int => t.1.size - t.2.toNat) (fun t => t.1 = s ∧ 0 ≤ t.2 ∧ t.2 ≤ s.size) (fun t => if VR (t.1.data.toList.drop t.2.toNat) then some (inR s.size 1 6) else some false) ?_ (s, 0) ⟨rfl, by simp, by simp⟩ (by simp only [maxLen] at hs; simp; omega)]
 ·unfold y3F
  cases h : VR s.data.toList <;> simp [h]
 ·rintro again ⟨s', i⟩ ⟨rfl, h0, h1⟩ hag
  simp only at h0 h1 hs hm ⊢
  unfold KT
  simp only [Bool.cond_eq_ite, decide_eq_true_eq]
  by_cases hi : i < (s'.size : Int)
  ·have hn : i.toNat < s'.size := by omega
   rw [if_pos hi, if_pos h0, dif_pos hn]
   simp only [k9, Option.bind_some, if_pos h0, dif_pos hn, yb4]
   rw [y8k s' i.toNat hn]
   have hw : Go.IntKind.wrap .i64 (i + 1) = i + 1 := w64 (by omega) (by omega)
   have e1 : (i + 1).toNat = i.toNat + 1 := by omega
   have hag' := hag (s', i + 1) ⟨rfl, by simp only; omega, by simp only; omega⟩ (by simp only; omega)
   simp only [VR, List.all_cons, y72] at hag' ⊢
   rw [hw, hag', e1]
   obtain ⟨c, hc⟩ : ∃ c, ByteArray.get s' i.toNat hn = c := ⟨_, rfl⟩
   simp only [hc]
   cases inR (c.toNat : Int) 97 122 <;> cases inR (c.toNat : Int) 48 57 <;> simp
  ·rw [if_neg hi, List.drop_of_length_le (by rw [Array.length_toList]; show s'.size ≤ _; omega)]
   simp [VR, k9]
theorem y49 (s : ByteArray) (hs : s.size ≤ maxLen) : Wc s = some (y3F s) := by
 have hm : (s.size : Int) ≤ 9223372036854775807 := by simp only [maxLen] at hs; omega
 unfold Wc Qb
 rw [Yi (fun t : ByteArray × Int => t.1.size - t.2.toNat) (fun t => t.1 = s ∧ 0 ≤ t.2 ∧ t.2 ≤ s.size) (fun t => if VR (t.1.data.toList.drop t.2.toNat) then some (inR s.size 1 6) else some false) ?_ (s, 0) ⟨rfl, by simp, by simp⟩ (by simp only [maxLen] at hs; simp; omega)]
 ·unfold y3F
  cases h : VR s.data.toList <;> simp [h]
 ·rintro again ⟨s', i⟩ ⟨rfl, h0, h1⟩ hag
  simp only at h0 h1 hs hm ⊢
  unfold ve
  simp only [Bool.cond_eq_ite, decide_eq_true_eq]
  by_cases hi : i < (s'.size : Int)
  ·have hn : i.toNat < s'.size := by omega
   rw [if_pos hi, if_pos h0, dif_pos hn]
   simp only [ZY, Option.bind_some, if_pos h0, dif_pos hn, yb4]
   rw [y8k s' i.toNat hn]
   have hw : Go.IntKind.wrap .i64 (i + 1) = i + 1 := w64 (by omega) (by omega)
   have e1 : (i + 1).toNat = i.toNat + 1 := by omega
   have hag' := hag (s', i + 1) ⟨rfl, by simp only; omega, by simp only; omega⟩ (by simp only; omega)
   simp only [VR, List.all_cons, y72] at hag' ⊢
   rw [hw, hag', e1]
   obtain ⟨c, hc⟩ : ∃ c, ByteArray.get s' i.toNat hn = c := ⟨_, rfl⟩
   simp only [hc]
   cases inR (c.toNat : Int) 97 122 <;> cases inR (c.toNat : Int) 48 57 <;> simp
  ·rw [if_neg hi, List.drop_of_length_le (by rw [Array.length_toList]; show s'.size ≤ _; omega)]
   simp [VR, ZY]
end Go.Proofs.YtmapoakbdgpamaaGreat.Pl
namespace Go.Proofs.YtmapoakbdgpamaaGreat.Pl
open Go.Proofs.YtmapoakbdgpamaaGreat.R Go.Proofs.YtmapoakbdgpamaaGreat.XP
def ye5 (l : List yf) (i : Int) : List yf := List.drop (Int.toNat (0 : Int)) (List.take (Int.toNat i) l)
def y8l (l : List yf) (i : Int) (a : yf) : Bool := !inR a.1 1 60 || ((decide (0 < i) && decide ((l.getD (i - 1).toNat Y1).1 ≥ a.1)) || (a.2 != 0 && decide (Y5 (ye5 l i) a.2 < 0)))
def Ws (l : List yf) : Bool := !Yj (y8l l) l 0 && decide ((l.length : Int) ≤ 16)
theorem yb5 (l : List yf) (i : Int) : (ye5 l i).length ≤ l.length := by
 unfold ye5
 simp only [List.length_drop, List.length_take]
 omega
theorem y08 (l : List yf) (hl : l.length ≤ 1048576) : J4 l = some (Ws l) := by
 unfold J4 qW Ws
 refine (zA (step := jy _ _) (fun i => (l, i)) (y8l l) (some false) (some (decide ((l.length : Int) ≤ 16))) Y1 l (by omega) ?_ ?_).trans ?_
 ·intro again i h0 h1
  have hw : Go.IntKind.wrap .i64 (i + 1) = i + 1 := w64 (by omega) (by omega)
  have hm : Go.IntKind.wrap .i64 (i - 1) = i - 1 := w64 (by omega) (by omega)
  unfold jy y8l
  obtain ⟨⟨x1, x2⟩, hx⟩ : ∃ x, yD l i = x := ⟨_, rfl⟩
  have hx' : l.getD i.toNat Y1 = (x1, x2) := hx
  have hy : l.getD (i - 1).toNat Y1 = yD l (i - 1) := rfl
  have e : Y7 (List.drop (Int.toNat (0 : Int)) (List.take (Int.toNat i) l), x2) = some (Y5 (ye5 l i) x2) := Je (ye5 l i) x2 (by have := yb5 l i; omega)
  rw [hx', hy]
  have h2 : i ≤ (l.length : Int) := by omega
  simp only [Bool.cond_eq_ite, decide_eq_true_eq, h0, h1, h2, if_true, hw, hm, hx, k9, e, Option.bind_some, Int.le_refl, gt_iff_lt]
  cases inR x1 1 60
  ·rfl
  ·by_cases h5 : 0 < i
   ·have h3 : 0 ≤ i - 1 := by omega
    have h4 : i - 1 < (l.length : Int) := by omega
    simp only [h5, h3, h4, if_true, decide_true]
    cases decide ((yD l (i - 1)).1 ≥ x1) <;> cases (x2 != 0) <;> cases decide (Y5 (ye5 l i) x2 < 0) <;> rfl
   ·simp only [h5, if_false, decide_false]
    cases (x2 != 0) <;> cases decide (Y5 (ye5 l i) x2 < 0) <;> rfl
 ·intro again i hi
  unfold jy
  simp only [Bool.cond_eq_ite, decide_eq_true_eq, if_neg hi]
 ·cases Yj (y8l l) l 0 <;> rfl
theorem y09 (l : List yf) (hl : l.length ≤ 1048576) : Jb l = some (Ws l) := by
 unfold Jb Qa Ws
 refine (zA (step := jL _ _) (fun i => (l, l, (l.length : Int), i)) (y8l l) (some false) (some (decide ((l.length : Int) ≤ 16))) Y1 l (by omega) ?_ ?_).trans ?_
 ·intro again i h0 h1
  have hw : Go.IntKind.wrap .i64 (i + 1) = i + 1 := w64 (by omega) (by omega)
  have hm : Go.IntKind.wrap .i64 (i - 1) = i - 1 := w64 (by omega) (by omega)
  unfold jL y8l
  obtain ⟨⟨x1, x2⟩, hx⟩ : ∃ x, yD l i = x := ⟨_, rfl⟩
  have hx' : l.getD i.toNat Y1 = (x1, x2) := hx
  have hy : l.getD (i - 1).toNat Y1 = yD l (i - 1) := rfl
  have e : Yp (List.drop (Int.toNat (0 : Int)) (List.take (Int.toNat i) l), x2) = some (Y5 (ye5 l i) x2) := Wr (ye5 l i) x2 (by have := yb5 l i; omega)
  rw [hx', hy]
  have h2 : i ≤ (l.length : Int) := by omega
  simp only [Bool.cond_eq_ite, decide_eq_true_eq, h0, h1, h2, if_true, hw, hm, hx, ZY, e, Option.bind_some, Int.le_refl, gt_iff_lt]
  cases inR x1 1 60
  ·rfl
  ·by_cases h5 : 0 < i
   ·have h3 : 0 ≤ i - 1 := by omega
    have h4 : i - 1 < (l.length : Int) := by omega
    simp only [h5, h3, h4, if_true, decide_true]
    cases decide ((yD l (i - 1)).1 ≥ x1) <;> cases (x2 != 0) <;> cases decide (Y5 (ye5 l i) x2 < 0) <;> rfl
   ·simp only [h5, if_false, decide_false]
    cases (x2 != 0) <;> cases decide (Y5 (ye5 l i) x2 < 0) <;> rfl
 ·intro again i hi
  unfold jL
  simp only [Bool.cond_eq_ite, decide_eq_true_eq, if_neg hi]
 ·cases Yj (y8l l) l 0 <;> rfl
def Qr (id : Int) (s : List Int) (a : yf) : List Int := if (a.2 == id && id != 0) = true then s ++ [a.1] else s
def zv (l : List yf) (id : Int) : List Int := l.foldl (Qr id) []
theorem y4S (id : Int) (s : List Int) (a : yf) : (Qr id s a).length ≤ s.length + 1 := by
 unfold Qr
 split <;> simp
theorem kl (l : List yf) (id : Int) (hl : l.length ≤ 1048576) : ZC (l, id) = some (zv l id) := by
 unfold ZC qY zv
 refine zS (step := jz _) (fun (i : Int) (s : List Int) => (l, id, i, s)) (fun s => some s) Y1 (Qr id) l (by omega) (fun i s => s.length ≤ i) ?_ ?_ [] (by simp)
 ·intro again i s h0 h1 hI
  have hw : Go.IntKind.wrap .i64 (i + 1) = i + 1 := w64 (by omega) (by omega)
  have hs := y4S id s (l.getD i.toNat Y1)
  refine ⟨?_, by omega⟩
  have c1 : (s.length + 1) * 8 < 140737488355328 := by omega
  clear hs
  unfold jz Qr
  obtain ⟨⟨x1, x2⟩, hx⟩ : ∃ x, yD l i = x := ⟨_, rfl⟩
  have hx' : l.getD i.toNat Y1 = (x1, x2) := hx
  rw [hx']
  simp only [Bool.cond_eq_ite, decide_eq_true_eq, h0, h1, if_true, hw, hx, List.length_cons, List.length_nil, Nat.zero_add, c1]
  cases (x2 == id) <;> cases (id != 0) <;> rfl
 ·intro again i s hi
  unfold jz
  simp only [Bool.cond_eq_ite, decide_eq_true_eq, if_neg hi]
theorem ye6 (l : List yf) : zv l 0 = [] := by
 have : ∀ (l : List yf) (s : List Int), l.foldl (Qr 0) s = s := by
  intro l
  induction l with
  | nil => intro s; rfl
  | cons a l ih =>
   intro s
   rw [List.foldl_cons, ih]
   unfold Qr
   simp
 exact this l []
theorem km (l : List yf) (id : Int) (hl : l.length ≤ 1048576) : YS (l, id) = some (zv l id) := by
 unfold YS
 by_cases hid : id = 0
 ·subst hid
  rw [ye6]
  rfl
 ·have hid1 : (id == 0) = false := by simpa using hid
  have hid2 : (id != 0) = true := by simpa using hid
  simp only [hid1, cond_false]
  unfold Qc zv
  refine zS (step := jM _) (fun (i : Int) (s : List Int) => (id, l, (l.length : Int), i, s)) (fun s => some s) Y1 (Qr id) l (by omega) (fun i s => s.length ≤ i) ?_ ?_ [] (by simp)
  ·intro again i s h0 h1 hI
   have hw : Go.IntKind.wrap .i64 (i + 1) = i + 1 := w64 (by omega) (by omega)
   have hs := y4S id s (l.getD i.toNat Y1)
   refine ⟨?_, by omega⟩
   have c1 : (s.length + 1) * 8 < 140737488355328 := by omega
   clear hs
   unfold jM Qr
   obtain ⟨⟨x1, x2⟩, hx⟩ : ∃ x, yD l i = x := ⟨_, rfl⟩
   have hx' : l.getD i.toNat Y1 = (x1, x2) := hx
   rw [hx']
   simp only [Bool.cond_eq_ite, decide_eq_true_eq, h0, h1, if_true, hw, hx, List.length_cons, List.length_nil, Nat.zero_add, c1, hid2]
   cases (x2 == id) <;> rfl
  ·intro again i s hi
   unfold jM
   simp only [Bool.cond_eq_ite, decide_eq_true_eq, if_neg hi]
def yab (_ : Int) (a : yg) : Bool := !inR a.1 0 999 || (!isW a.2.2 || (!a.2.1 && a.2.2 != 0))
def Z0 (l : List yg) : Bool := !Yj yab l 0 && ((l.length : Int) == 24)
theorem Qs (l : List yg) (hl : l.length ≤ 1048576) : jb l = some (Z0 l) := by
 unfold jb qj Z0
 refine (zA (step := ZJ _ _) (fun i => (l, i)) yab (some false) (some ((l.length : Int) == 24)) jq l (by omega) ?_ ?_).trans ?_
 ·intro again i h0 h1
  have hw : Go.IntKind.wrap .i64 (i + 1) = i + 1 := w64 (by omega) (by omega)
  unfold ZJ yab
  obtain ⟨⟨x1, x2, x3⟩, hx⟩ : ∃ x, zw l i = x := ⟨_, rfl⟩
  have hx' : l.getD i.toNat jq = (x1, x2, x3) := hx
  rw [hx']
  simp only [Bool.cond_eq_ite, decide_eq_true_eq, h0, h1, if_true, hw, hx, k9, ye3, Option.bind_some]
  cases inR x1 0 999 <;> cases isW x3 <;> cases x2 <;> cases (x3 != 0) <;> rfl
 ·intro again i hi
  unfold ZJ
  simp only [Bool.cond_eq_ite, decide_eq_true_eq, if_neg hi]
 ·cases Yj yab l 0 <;> rfl
theorem Qt (l : List yg) (hl : l.length ≤ 1048576) : jg l = some (Z0 l) := by
 unfold jg qp Z0
 refine (zA (step := ZR _ _) (fun i => (l, l, (l.length : Int), i)) yab (some false) (some ((l.length : Int) == 24)) jq l (by omega) ?_ ?_).trans ?_
 ·intro again i h0 h1
  have hw : Go.IntKind.wrap .i64 (i + 1) = i + 1 := w64 (by omega) (by omega)
  unfold ZR yab
  obtain ⟨⟨x1, x2, x3⟩, hx⟩ : ∃ x, zw l i = x := ⟨_, rfl⟩
  have hx' : l.getD i.toNat jq = (x1, x2, x3) := hx
  rw [hx']
  simp only [Bool.cond_eq_ite, decide_eq_true_eq, h0, h1, if_true, hw, hx, ZY, ye4, Option.bind_some]
  cases inR x1 0 999 <;> cases isW x3 <;> cases x2 <;> cases (x3 != 0) <;> rfl
 ·intro again i hi
  unfold ZR
  simp only [Bool.cond_eq_ite, decide_eq_true_eq, if_neg hi]
 ·cases Yj yab l 0 <;> rfl
def y3G (s : Int) (a : yg) : Int := if a.2.1 = true then Go.IntKind.wrap .i64 (s + 1) else s
def y8m (l : List yg) : Int := l.foldl y3G 0
theorem y8n (l : List yg) (hl : l.length ≤ 1048576) : ZM l = some (y8m l) := by
 unfold ZM vN y8m
 refine zS (step := YL _) (fun (i s : Int) => (l, s, i)) (fun s => some s) jq y3G l (by omega) (fun _ _ => True) ?_ ?_ 0 trivial
 ·intro again i s h0 h1 _
  have hw : Go.IntKind.wrap .i64 (i + 1) = i + 1 := w64 (by omega) (by omega)
  refine ⟨?_, trivial⟩
  unfold YL y3G
  obtain ⟨⟨x1, x2, x3⟩, hx⟩ : ∃ x, zw l i = x := ⟨_, rfl⟩
  have hx' : l.getD i.toNat jq = (x1, x2, x3) := hx
  rw [hx']
  simp only [Bool.cond_eq_ite, decide_eq_true_eq, h0, h1, if_true, hw, hx]
  cases x2 <;> rfl
 ·intro again i s hi
  unfold YL
  simp only [Bool.cond_eq_ite, decide_eq_true_eq, if_neg hi]
theorem y8o (l : List yg) (hl : l.length ≤ 1048576) : ZS l = some (y8m l) := by
 unfold ZS vT y8m
 refine zS (step := YT _) (fun (i s : Int) => (s, l, (l.length : Int), i)) (fun s => some s) jq y3G l (by omega) (fun _ _ => True) ?_ ?_ 0 trivial
 ·intro again i s h0 h1 _
  have hw : Go.IntKind.wrap .i64 (i + 1) = i + 1 := w64 (by omega) (by omega)
  refine ⟨?_, trivial⟩
  unfold YT y3G
  obtain ⟨⟨x1, x2, x3⟩, hx⟩ : ∃ x, zw l i = x := ⟨_, rfl⟩
  have hx' : l.getD i.toNat jq = (x1, x2, x3) := hx
  rw [hx']
  simp only [Bool.cond_eq_ite, decide_eq_true_eq, h0, h1, if_true, hw, hx]
  cases x2 <;> rfl
 ·intro again i s hi
  unfold YT
  simp only [Bool.cond_eq_ite, decide_eq_true_eq, if_neg hi]
def Ve (l : List yg) (i gen : Int) : Int × Bool :=
 if inR i 0 ((l.length : Int) - 1) && ((l.getD i.toNat jq).2.1 && ((l.getD i.toNat jq).1 == gen)) then ((l.getD i.toNat jq).2.2, true) else (0, false)
theorem y0a (l : List yg) (i gen : Int) (hl : l.length ≤ 1048576) : J5 (l, i, gen) = some (Ve l i gen) := by
 unfold J5 Ve
 have hm : Go.IntKind.wrap .i64 ((l.length : Int) - 1) = (l.length : Int) - 1 := w64 (by omega) (by omega)
 obtain ⟨⟨x1, x2, x3⟩, hx⟩ : ∃ x, zw l i = x := ⟨_, rfl⟩
 have hx' : l.getD i.toNat jq = (x1, x2, x3) := hx
 rw [hx']
 simp only [hm, hx, k9, Option.bind_some]
 by_cases hr : inR i 0 ((l.length : Int) - 1) = true
 ·obtain ⟨h0, h1⟩ := k8.1 hr
  rw [hr, if_pos h0, if_pos (by omega), if_pos h0, if_pos (by omega), if_pos h0, if_pos (by omega)]
  by_cases hg : x1 = gen
  ·have g1 : (x1 != gen) = false := by simp [hg]
   have g2 : (x1 == gen) = true := by simp [hg]
   rw [g1, g2]
   cases x2 <;> rfl
  ·have g1 : (x1 != gen) = true := by simpa using hg
   have g2 : (x1 == gen) = false := by simpa using hg
   rw [g1, g2]
   cases x2 <;> rfl
 ·have : inR i 0 ((l.length : Int) - 1) = false := by simpa using hr
  rw [this]
  rfl
theorem y4a (l : List yg) (i gen : Int) (hl : l.length ≤ 1048576) : Wf (l, i, gen) = some (Ve l i gen) := by
 rw [← y0a l i gen hl]
 unfold Wf J5
 simp only [ZY, k9]
end Go.Proofs.YtmapoakbdgpamaaGreat.Pl
namespace Go.Proofs.YtmapoakbdgpamaaGreat.Pl
open Go.Proofs.YtmapoakbdgpamaaGreat.R Go.Proofs.YtmapoakbdgpamaaGreat.XP
theorem y73 {A : Type} (p : A → Bool) : ∀ (l : List A) (i j : Int), 0 ≤ i → decide (0 ≤ Z5 p l i) = Yj (fun _ a => p a) l j
 | [], i, j, _ => rfl
 | a :: l, i, j, h => by
  rw [Z5, Yj, ← y73 p l (i + 1) (j + 1) (by omega)]
  cases p a with
  | true => simp [h]
  | false => rfl
theorem y8p {A : Type} (da : A) (l : List A) (i j : Int) (h0 : 0 ≤ j) (h : j < i) : (l.take i.toNat).getD j.toNat da = l.getD j.toNat da := by
 rw [List.getD_eq_getElem?_getD, List.getD_eq_getElem?_getD, List.getElem?_take, if_pos (by omega)]
theorem yb6 {A : Type} (l : List A) (i : Int) (h0 : 0 ≤ i) (h : i ≤ (l.length : Int)) : ((l.take i.toNat).length : Int) = i := by
 rw [List.length_take]
 omega
def Wt (age : Int) (_ : Int) (u : yF) : Bool := u.2.1 == age
def ykv (vs : List yF) (l : List yf) (i : Int) (v : yF) : Bool :=
 !y3F v.1 || (!inR v.2.2.1 1 12 || (decide (Y5 l v.2.1 < 0) || (decide (((zv l v.2.1).length : Int) > 0) || ((decide (0 < i) && !Go.Op.bytesLess (ByteArray.toList (vs.getD (i - 1).toNat K8).1) (ByteArray.toList v.1)) || Yj (Wt v.2.1) (vs.take i.toNat) 0))))
def VS (vs : List yF) (l : List yf) : Bool := !Yj (ykv vs l) vs 0 && decide ((vs.length : Int) ≤ 6)
theorem y3H {R : Type} (k0 : (Bool × Int × List yh × List y7 × List yf × List yg × List yF × Int) → Option R) (k1 : (Int × List yh × List y7 × List yf × List yg × List yF × Int) → Option R) (i : Int) (q : List Int) (t : List y7) (l : List yf) (cs : List yg) (vs : List yF) (z : Int) (v1 : ByteArray) (v2 v3 : Int) (v4 : Bool) (h0 : 0 ≤ i) (h1 : i ≤ (vs.length : Int)) (hv : vs.length ≤ 1048576) :
  kN k0 k1 (i, 0, q, t, l, cs, vs, z, v1, v2, v3, v4) = if Yj (Wt v2) (vs.take i.toNat) 0 = true then k0 (false, i, q, t, l, cs, vs, z) else k1 (i, q, t, l, cs, vs, z) := by
 unfold kN
 have hlen := yb6 vs i h0 h1
 refine zA (step := ZK k0 k1) (fun k => (i, k, q, t, l, cs, vs, z, v1, v2, v3, v4)) (Wt v2) _ _ K8 (vs.take i.toNat) (by omega) ?_ ?_
 ·intro again k hk0 hk1
  rw [hlen] at hk1
  have hw : Go.IntKind.wrap .i64 (k + 1) = k + 1 := w64 (by omega) (by omega)
  have hk2 : k < (vs.length : Int) := by omega
  unfold ZK Wt
  rw [y8p K8 vs i k hk0 hk1]
  have hx : vs.getD k.toNat K8 = zd vs k := rfl
  rw [hx]
  simp only [Bool.cond_eq_ite, decide_eq_true_eq, hk0, hk1, hk2, if_true, hw]
 ·intro again k hk
  rw [hlen] at hk
  unfold ZK
  simp only [Bool.cond_eq_ite, decide_eq_true_eq, if_neg hk]
theorem y8q (q : List Int) (t : List y7) (l : List yf) (cs : List yg) (vs : List yF) (z : Int) (hl : l.length ≤ 1048576) (hv : vs.length ≤ 1048576) (hvn : ∀ v ∈ vs, ByteArray.size v.1 ≤ maxLen) : Jy (q, t, l, cs, vs, z) = some (VS vs l) := by
 unfold Jy qk VS
 refine (zA (step := ZL _ _) (fun i => (i, q, t, l, cs, vs, z)) (ykv vs l) (some false) (some (decide ((vs.length : Int) ≤ 6))) K8 vs (by omega) ?_ ?_).trans ?_
 ·intro again i h0 h1
  have hw : Go.IntKind.wrap .i64 (i + 1) = i + 1 := w64 (by omega) (by omega)
  have hm : Go.IntKind.wrap .i64 (i - 1) = i - 1 := w64 (by omega) (by omega)
  have hmem := hvn _ (zj K8 vs i h0 h1)
  unfold ZL ykv
  obtain ⟨⟨x1, x2, x3, x4⟩, hx⟩ : ∃ x, zd vs i = x := ⟨_, rfl⟩
  have hx' : vs.getD i.toNat K8 = (x1, x2, x3, x4) := hx
  have hy : vs.getD (i - 1).toNat K8 = zd vs (i - 1) := rfl
  rw [hx'] at hmem
  rw [hx', hy]
  have e1 := y48 x1 hmem
  have e2 := Je l x2 (by omega)
  have e3 := kl l x2 hl
  simp only [Bool.cond_eq_ite, decide_eq_true_eq, h0, h1, if_true, hw, hm, hx, k9, e1, e2, e3, y3H _ _ i q t l cs vs z x1 x2 x3 x4 h0 (by omega) hv, Option.bind_some, gt_iff_lt]
  cases y3F x1
  ·rfl
  by_cases h5 : 0 < i
  ·have h3 : 0 ≤ i - 1 := by omega
   have h4 : i - 1 < (vs.length : Int) := by omega
   simp only [h5, h3, h4, if_true, decide_true]
   by_cases ha : Y5 l x2 < 0 <;> by_cases hk : (0 : Int) < ((zv l x2).length : Int) <;> simp only [ha, hk, if_true, if_false, decide_true, decide_false] <;> cases Go.Op.bytesLess (ByteArray.toList (zd vs (i - 1)).1) (ByteArray.toList x1) <;> cases inR x3 1 12 <;> cases Yj (Wt x2) (vs.take i.toNat) 0 <;> rfl
  ·simp only [h5, if_false, decide_false]
   by_cases ha : Y5 l x2 < 0 <;> by_cases hk : (0 : Int) < ((zv l x2).length : Int) <;> simp only [ha, hk, if_true, if_false, decide_true, decide_false] <;> cases inR x3 1 12 <;> cases Yj (Wt x2) (vs.take i.toNat) 0 <;> rfl
 ·intro again i hi
  unfold ZL
  simp only [Bool.cond_eq_ite, decide_eq_true_eq, if_neg hi]
 ·cases Yj (ykv vs l) vs 0 <;> rfl
theorem yac (l : List yF) (v1 : ByteArray) (v2 v3 : Int) (v4 : Bool) (hl : l.length ≤ 1048576) : yA (l, v1, v2, v3, v4) = some (Yj (Wt v2) l 0, v1, v2, v3, v4) := by
 have key : yO (l, v1, v2, v3, v4) = some (Z5 (fun u : yF => u.2.1 == v2) l 0, v1, v2, v3, v4) := by
  unfold yO Y9
  refine (YZ (step := yI _ _) (fun i => (l, (l.length : Int), i, v1, v2, v3, v4)) (fun u : yF => u.2.1 == v2) (fun x => some (x, v1, v2, v3, v4)) (some (-1, v1, v2, v3, v4)) K8 l (by omega) ?_ ?_).trans ?_
  ·intro again i h0 h1
   have hw : Go.IntKind.wrap .i64 (i + 1) = i + 1 := w64 (by omega) (by omega)
   unfold yI Wd
   simp only [Bool.cond_eq_ite, decide_eq_true_eq, h0, h1, if_true, hw, Option.bind_some]
   rfl
  ·intro again i hi
   unfold yI
   simp only [Bool.cond_eq_ite, decide_eq_true_eq, if_neg hi]
  ·rcases Kn (fun u : yF => u.2.1 == v2) K8 l 0 (Int.le_refl _) with h | ⟨h1, h2, h3⟩
   ·rw [h]
    rfl
   ·rw [if_neg (by omega)]
 unfold yA
 rw [key]
 simp only [Option.bind_some, ge_iff_le]
 rw [y73 _ l 0 0 (Int.le_refl _)]
 rfl
theorem y8r (q : List Int) (t : List y7) (l : List yf) (cs : List yg) (vs : List yF) (z : Int) (hl : l.length ≤ 1048576) (hv : vs.length ≤ 1048576) (hvn : ∀ v ∈ vs, ByteArray.size v.1 ≤ maxLen) : We (q, t, l, cs, vs, z) = some (VS vs l) := by
 unfold We Qd VS
 refine (zA (step := jN _ _) (fun i => (vs, (vs.length : Int), i, q, t, l, cs, vs, z)) (ykv vs l) (some false) (some (decide ((vs.length : Int) ≤ 6))) K8 vs (by omega) ?_ ?_).trans ?_
 ·intro again i h0 h1
  have hw : Go.IntKind.wrap .i64 (i + 1) = i + 1 := w64 (by omega) (by omega)
  have hm : Go.IntKind.wrap .i64 (i - 1) = i - 1 := w64 (by omega) (by omega)
  have hmem := hvn _ (zj K8 vs i h0 h1)
  unfold jN ykv
  obtain ⟨⟨x1, x2, x3, x4⟩, hx⟩ : ∃ x, zd vs i = x := ⟨_, rfl⟩
  have hx' : vs.getD i.toNat K8 = (x1, x2, x3, x4) := hx
  have hy : vs.getD (i - 1).toNat K8 = zd vs (i - 1) := rfl
  rw [hx'] at hmem
  rw [hx', hy]
  have e1 := y49 x1 hmem
  have e2 := Wr l x2 (by omega)
  have e3 := km l x2 hl
  have e4 : yA (List.drop (Int.toNat (0 : Int)) (List.take (Int.toNat i) vs), x1, x2, x3, x4) = some (Yj (Wt x2) (vs.take i.toNat) 0, x1, x2, x3, x4) := yac (vs.take i.toNat) x1 x2 x3 x4 (by simp only [List.length_take]; omega)
  have h2 : i ≤ (vs.length : Int) := by omega
  simp only [Bool.cond_eq_ite, decide_eq_true_eq, h0, h1, h2, if_true, hw, hm, hx, ZY, e1, e2, e3, e4, Option.bind_some, gt_iff_lt, Int.le_refl]
  cases y3F x1
  ·rfl
  by_cases h5 : 0 < i
  ·have h3 : 0 ≤ i - 1 := by omega
   have h4 : i - 1 < (vs.length : Int) := by omega
   simp only [h5, h3, h4, if_true, decide_true]
   by_cases ha : Y5 l x2 < 0 <;> by_cases hk : (0 : Int) < ((zv l x2).length : Int) <;> simp only [ha, hk, if_true, if_false, decide_true, decide_false] <;> cases Go.Op.bytesLess (ByteArray.toList (zd vs (i - 1)).1) (ByteArray.toList x1) <;> cases inR x3 1 12 <;> cases Yj (Wt x2) (vs.take i.toNat) 0 <;> rfl
  ·simp only [h5, if_false, decide_false]
   by_cases ha : Y5 l x2 < 0 <;> by_cases hk : (0 : Int) < ((zv l x2).length : Int) <;> simp only [ha, hk, if_true, if_false, decide_true, decide_false] <;> cases inR x3 1 12 <;> cases Yj (Wt x2) (vs.take i.toNat) 0 <;> rfl
 ·intro again i hi
  unfold jN
  simp only [Bool.cond_eq_ite, decide_eq_true_eq, if_neg hi]
 ·cases Yj (ykv vs l) vs 0 <;> rfl
end Go.Proofs.YtmapoakbdgpamaaGreat.Pl
namespace Go.Proofs.YtmapoakbdgpamaaGreat.Pl
open Go.Proofs.YtmapoakbdgpamaaGreat.R Go.Proofs.YtmapoakbdgpamaaGreat.XP
def jU (c : Int) (_ : Int) (u : y8) : Bool := (u.2.2.1 == 1) && (u.2.2.2.1 == c)
def yej (ks : List y8) (l : List yf) (cs : List yg) (i : Int) (a : y8) : Bool :=
 decide (Y5 l a.2.1 < 0) || ((a.2.2.1 == 1) && (!(Ve cs a.2.2.2.1 a.2.2.2.2).2 || Yj (jU a.2.2.2.1) (ks.take i.toNat) 0))
def y4T (n : Int) (a : y8) : Int := if (a.2.2.1 == 1) = true then Go.IntKind.wrap .i64 (n + 1) else n
def VT (ks : List y8) (l : List yf) (cs : List yg) : Bool := !Yj (yej ks l cs) ks 0 && (ks.foldl y4T 0 == y8m cs)
theorem y3I {R : Type} (k0 : (Bool × Int × Int × List yh × List y7 × List yf × List yg × List yF × Int × List y8) → Option R) (k1 : (Int × Int × List yh × List y7 × List yf × List yg × List yF × Int × List y8) → Option R) (n i : Int) (q : List Int) (t : List y7) (l : List yf) (cs : List yg) (vs : List yF) (z : Int) (ks : List y8) (h0 : 0 ≤ i) (h1 : i < (ks.length : Int)) (hk : ks.length ≤ 1048576) :
  WN k0 k1 (n, i, 0, q, t, l, cs, vs, z, ks) = if Yj (jU (y0 ks i).2.2.2.1) (ks.take i.toNat) 0 = true then k0 (false, n, i, q, t, l, cs, vs, z, ks) else k1 (n, i, q, t, l, cs, vs, z, ks) := by
 unfold WN
 have hlen := yb6 ks i h0 (by omega)
 refine zA (step := Zb k0 k1) (fun k => (n, i, k, q, t, l, cs, vs, z, ks)) (jU (y0 ks i).2.2.2.1) _ _ z0 (ks.take i.toNat) (by omega) ?_ ?_
 ·intro again k hk0 hk1
  rw [hlen] at hk1
  have hw : Go.IntKind.wrap .i64 (k + 1) = k + 1 := w64 (by omega) (by omega)
  have hk2 : k < (ks.length : Int) := by omega
  unfold Zb jU
  rw [y8p z0 ks i k hk0 hk1]
  have hx : ks.getD k.toNat z0 = y0 ks k := rfl
  rw [hx]
  simp only [Bool.cond_eq_ite, decide_eq_true_eq, hk0, hk1, hk2, h0, h1, if_true, hw]
  cases ((y0 ks k).2.2.1 == 1) <;> cases ((y0 ks k).2.2.2.1 == (y0 ks i).2.2.2.1) <;> rfl
 ·intro again k hk
  rw [hlen] at hk
  unfold Zb
  simp only [Bool.cond_eq_ite, decide_eq_true_eq, if_neg hk]
theorem y3J (q : List Int) (t : List y7) (l : List yf) (cs : List yg) (vs : List yF) (z : Int) (ht : TOk t) (hl : l.length ≤ 1048576) (hc : cs.length ≤ 1048576) : Jz (q, t, l, cs, vs, z) = some (VT (zh t) l cs) := by
 unfold Jz qm VT
 have hk := ht.keys
 have e : yJ (q, t) = some (zh t) := YG q t (by have := ht.len; omega) ht.nodes ht.sum
 simp only [e, Option.bind_some]
 generalize zh t = ks at hk
 refine (y2M (step := ZN _ _) (fun (i n : Int) => (n, i, q, t, l, cs, vs, z, ks)) (yej ks l cs) y4T (some false) (fun n => some (n == y8m cs)) z0 ks (by omega) ?_ ?_ 0).trans ?_
 ·intro again i n h0 h1
  have hw : Go.IntKind.wrap .i64 (i + 1) = i + 1 := w64 (by omega) (by omega)
  unfold ZN yej y4T
  have hin := fun (k0 : (Bool × Int × Int × List yh × List y7 × List yf × List yg × List yF × Int × List y8) → Option Bool) k1 m => y3I k0 k1 m i q t l cs vs z ks h0 h1 hk
  obtain ⟨⟨x1, x2, x3, x4, x5⟩, hx⟩ : ∃ x, y0 ks i = x := ⟨_, rfl⟩
  have hx' : ks.getD i.toNat z0 = (x1, x2, x3, x4, x5) := hx
  rw [hx']
  rw [hx] at hin
  have e1 := Je l x2 (by omega)
  have e2 := y0a cs x4 x5 hc
  simp only [Bool.cond_eq_ite, decide_eq_true_eq, h0, h1, if_true, hw, hx, e1, e2, hin, Option.bind_some]
  by_cases ha : Y5 l x2 < 0
  ·simp only [ha, if_true, decide_true, Bool.true_or]
  ·simp only [ha, if_false, decide_false, Bool.false_or]
   by_cases h3 : x3 = 1
   ·have g1 : (x3 == 1) = true := by simp [h3]
    have g2 : (x3 != 1) = false := by simp [h3]
    rw [g1, g2]
    cases (Ve cs x4 x5).2 <;> cases Yj (jU x4) (ks.take i.toNat) 0 <;> rfl
   ·have g1 : (x3 == 1) = false := by simpa using h3
    have g2 : (x3 != 1) = true := by simpa using h3
    rw [g1, g2]
    rfl
 ·intro again i n hi
  unfold ZN
  simp only [Bool.cond_eq_ite, decide_eq_true_eq, if_neg hi, y8n cs hc, Option.bind_some]
 ·cases Yj (yej ks l cs) ks 0 <;> rfl
theorem yb7 (c : Int) : ∀ (l : List y8) (i : Int) (j : Nat), j < l.length → Yj (jU c) (l.take (j + 1)) i = (Yj (jU c) (l.take j) i || jU c 0 (l.getD j z0))
 | a :: l, i, 0, _ => by simp [Yj, jU]
 | a :: l, i, j + 1, h => by
  have := yb7 c l (i + 1) j (by simpa using h)
  rw [List.take_succ_cons, Yj, this, List.take_succ_cons, Yj, List.getD_cons_succ, Bool.or_assoc]
def yca (s : Int × List Bool) (a : y8) : Int × List Bool := (y4T s.1 a, if (a.2.2.1 == 1) = true then s.2.set a.2.2.2.1.toNat true else s.2)
theorem yhr : ∀ (l : List y8) (s : Int × List Bool), (l.foldl yca s).1 = l.foldl y4T s.1
 | [], _ => rfl
 | a :: l, s => yhr l (yca s a)
theorem y3K (q : List Int) (t : List y7) (l : List yf) (cs : List yg) (vs : List yF) (z : Int) (ht : TOk t) (hl : l.length ≤ 1048576) (hc : cs.length = 24) : JE (q, t, l, cs, vs, z) = some (VT (zh t) l cs) := by
 unfold JE qq VT
 have hk := ht.keys
 have e : zg (q, t) = some (zh t) := JW q t (by have := ht.len; omega) ht.nodes ht.sum
 rw [if_pos (by omega), if_pos (Int.le_refl _), if_pos (by omega)]
 simp only [e, Option.bind_some]
 generalize zh t = ks at hk
 refine (y3D (step := ZT _ _) (fun (i : Int) (s : Int × List Bool) => (s.1, (ks.length : Int), i, q, t, l, cs, vs, z, s.2, ks)) (fun i s a => if yej ks l cs i a = true then .error (some false) else .ok (yca s a)) (fun s => some (s.1 == y8m cs)) z0 ks (by omega) (fun j s => s.2.length = 24 ∧ ∀ c : Nat, c < 24 → s.2.getD c false = Yj (jU (c : Int)) (ks.take j) 0) ?_ ?_ 0 (Int.le_refl _) (0, List.replicate (Int.toNat 24) yd6) ⟨rfl, fun c hc => ?_⟩).trans ?_
 ·rintro again i ⟨n, tk⟩ h0 h1 ⟨hI1, hI2⟩
  simp only at hI1 hI2
  have hw : Go.IntKind.wrap .i64 (i + 1) = i + 1 := w64 (by omega) (by omega)
  obtain ⟨⟨x1, x2, x3, x4, x5⟩, hx⟩ : ∃ x, y0 ks i = x := ⟨_, rfl⟩
  have hx' : ks.getD i.toNat z0 = (x1, x2, x3, x4, x5) := hx
  have hgd : ks.getD i.toNat z0 = ks.getD i.toNat z0 := rfl
  have e1 := Wr l x2 (by omega)
  have e2 := y4a cs x4 x5 (by omega)
  have hcell : (Ve cs x4 x5).2 = true → 0 ≤ x4 ∧ x4 < 24 := fun h => by
   unfold Ve at h
   split at h
   ·rename_i hh
    simp only [Bool.and_eq_true] at hh
    have := k8.1 hh.1
    omega
   ·cases h
  rw [hx']
  refine ⟨?_, fun s' hs' => ?_⟩
  ·unfold ZT yej yca y4T
   simp only [Bool.cond_eq_ite, decide_eq_true_eq, h0, h1, if_true, hw, hx, e1, e2, Option.bind_some]
   by_cases ha : Y5 l x2 < 0
   ·simp only [ha, if_true, decide_true, Bool.true_or]
   ·simp only [ha, if_false, decide_false, Bool.false_or]
    by_cases h3 : x3 = 1
    ·have g1 : (x3 == 1) = true := by simp [h3]
     have g2 : (x3 != 1) = false := by simp [h3]
     rw [g1, g2]
     cases hok : (Ve cs x4 x5).2 with
     | false => rfl
     | true =>
      obtain ⟨b0, b1⟩ := hcell hok
      have b2 : x4 < (tk.length : Int) := by omega
      have hrd : yd7 tk x4 = Yj (jU x4) (ks.take i.toNat) 0 := by
       have := hI2 x4.toNat (by omega)
       rw [show ((x4.toNat : Nat) : Int) = x4 by omega] at this
       exact this
      simp only [b0, b2, if_true, hrd]
      cases Yj (jU x4) (ks.take i.toNat) 0 <;> rfl
    ·have g1 : (x3 == 1) = false := by simpa using h3
     have g2 : (x3 != 1) = true := by simpa using h3
     rw [g1, g2]
     rfl
  ·by_cases hb : yej ks l cs i (x1, x2, x3, x4, x5) = true
   ·rw [if_pos hb] at hs'
    cases hs'
   ·rw [if_neg hb] at hs'
    injection hs' with hs'
    subst hs'
    have hsucc : ∀ c : Int, Yj (jU c) (ks.take (i.toNat + 1)) 0 = (Yj (jU c) (ks.take i.toNat) 0 || jU c 0 (x1, x2, x3, x4, x5)) := fun c => by
     rw [yb7 c ks 0 i.toNat (by omega), hx']
    unfold yca
    simp only
    by_cases h3 : x3 = 1
    ·have g1 : (x3 == 1) = true := by simp [h3]
     simp only [g1, if_true]
     have hok : (Ve cs x4 x5).2 = true := by
      unfold yej at hb
      simp only [g1] at hb
      cases hh : (Ve cs x4 x5).2 with
      | true => rfl
      | false =>
       rw [hh] at hb
       simp at hb
     obtain ⟨b0, b1⟩ := hcell hok
     refine ⟨by simpa using hI1, fun c hc => ?_⟩
     rw [hsucc, ← hI2 c hc]
     unfold jU
     simp only [g1, Bool.true_and]
     rw [List.getD_eq_getElem?_getD, List.getD_eq_getElem?_getD]
     by_cases hcx : c = x4.toNat
     ·rw [← hcx, List.getElem?_set_self (by omega)]
      have : (x4 == (c : Int)) = true := by
       simp only [beq_iff_eq]
       omega
      rw [this]
      simp
     ·rw [List.getElem?_set_ne (fun h => hcx h.symm)]
      have : (x4 == (c : Int)) = false := by
       simp only [beq_eq_false_iff_ne, ne_eq]
       omega
      rw [this]
      simp
    ·have g1 : (x3 == 1) = false := by simpa using h3
     simp only [g1, Bool.false_eq_true, if_false]
     refine ⟨hI1, fun c hc => ?_⟩
     rw [hsucc, ← hI2 c hc]
     unfold jU
     simp only [g1, Bool.false_and, Bool.or_false]
 ·rintro again i ⟨n, tk⟩ hi
  unfold ZT
  simp only [Bool.cond_eq_ite, decide_eq_true_eq, if_neg hi, y8o cs (by omega), Option.bind_some]
  rw [Bool.beq_comm]
 ·show (List.replicate 24 false).getD c false = _
  rw [List.getD_eq_getElem?_getD, List.getElem?_replicate]
  simp [Yj, hc]
 ·have := y2L (yej ks l cs) yca (some false) (fun s : Int × List Bool => some (s.1 == y8m cs)) ks 0 (0, List.replicate (Int.toNat 24) yd6)
  rw [show (0 : Int).toNat = 0 from rfl, List.drop_zero, this, yhr]
  cases Yj (yej ks l cs) ks 0 <;> rfl
def y0v (z : Int) (_ : Int) (a : yf) : Bool := decide (a.1 ≥ z)
def kc (q : List Int) (t : List y7) (l : List yf) (cs : List yg) (vs : List yF) (z : Int) : Bool :=
 YA q t && (Ws l && (Z0 cs && (inR z 1 61 && (!Yj (y0v z) l 0 && (VS vs l && VT (zh t) l cs)))))
theorem y0b (q : List Int) (t : List y7) (l : List yf) (cs : List yg) (vs : List yF) (z : Int) (ht : TOk t) (hl : l.length ≤ 1048576) (hc : cs.length ≤ 1048576) (hv : vs.length ≤ 1048576) (hvn : ∀ v ∈ vs, ByteArray.size v.1 ≤ maxLen) : z5 (q, t, l, cs, vs, z) = some (kc q t l cs vs z) := by
 unfold z5 qZ kc
 refine (zA (step := jA _ _) (fun i => (i, q, t, l, cs, vs, z)) (y0v z) (some false) (some (YA q t && (Ws l && (Z0 cs && (inR z 1 61 && (VS vs l && VT (zh t) l cs)))))) Y1 l (by omega) ?_ ?_).trans ?_
 ·intro again i h0 h1
  have hw : Go.IntKind.wrap .i64 (i + 1) = i + 1 := w64 (by omega) (by omega)
  unfold jA y0v
  have hx : l.getD i.toNat Y1 = yD l i := rfl
  rw [hx]
  simp only [Bool.cond_eq_ite, decide_eq_true_eq, h0, h1, if_true, hw]
 ·intro again i hi
  unfold jA
  simp only [Bool.cond_eq_ite, decide_eq_true_eq, if_neg hi, Vc q t ht, y08 l hl, Qs cs hc, k9, y8q q t l cs vs z hl hv hvn, y3J q t l cs vs z ht hl hc, Option.bind_some]
  cases YA q t <;> cases Ws l <;> cases Z0 cs <;> cases inR z 1 61 <;> cases VS vs l <;> rfl
 ·cases Yj (y0v z) l 0 <;> cases YA q t <;> cases Ws l <;> cases Z0 cs <;> cases inR z 1 61 <;> rfl
theorem y0c (q : List Int) (t : List y7) (l : List yf) (cs : List yg) (vs : List yF) (z : Int) (ht : TOk t) (hl : l.length ≤ 1048576) (hc : cs.length ≤ 1048576) (hv : vs.length ≤ 1048576) (hvn : ∀ v ∈ vs, ByteArray.size v.1 ≤ maxLen) : Ym (q, t, l, cs, vs, z) = some (kc q t l cs vs z) := by
 unfold Ym kc
 simp only [Vd q t ht, y09 l hl, Qt cs hc, ZY, Option.bind_some]
 cases YA q t
 ·rfl
 cases Ws l
 ·rfl
 cases hcc : Z0 cs
 ·rfl
 cases inR z 1 61
 ·rfl
 have hc24 : cs.length = 24 := by
  unfold Z0 at hcc
  simp only [Bool.and_eq_true, beq_iff_eq] at hcc
  omega
 simp only [Bool.not_true, cond_false, Option.bind_some, Bool.true_and]
 unfold Qe
 refine (zA (step := jO _ _) (fun i => (l, (l.length : Int), i, q, t, l, cs, vs, z)) (y0v z) (some false) (some (VS vs l && VT (zh t) l cs)) Y1 l (by omega) ?_ ?_).trans ?_
 ·intro again i h0 h1
  have hw : Go.IntKind.wrap .i64 (i + 1) = i + 1 := w64 (by omega) (by omega)
  unfold jO y0v
  have hx : l.getD i.toNat Y1 = yD l i := rfl
  rw [hx]
  simp only [Bool.cond_eq_ite, decide_eq_true_eq, h0, h1, if_true, hw]
 ·intro again i hi
  unfold jO
  simp only [Bool.cond_eq_ite, decide_eq_true_eq, if_neg hi, y8r q t l cs vs z hl hv hvn, y3K q t l cs vs z ht hl hc24, Option.bind_some]
  cases VS vs l <;> rfl
 ·cases Yj (y0v z) l 0 <;> rfl
end Go.Proofs.YtmapoakbdgpamaaGreat.Pl
namespace Go.Proofs.YtmapoakbdgpamaaGreat.Pl
open Go.Proofs.YtmapoakbdgpamaaGreat.R Go.Proofs.YtmapoakbdgpamaaGreat.XP
def y8s (t : List y7) (l : List yf) (blk id : Int) : Bool × y8 := Qp (vX (zh t) blk) ((y03 l id).drop 1)
theorem yad (ks : List y8) : Qp ks [] = (false, (0, 0, 0, 0, 0)) := by
 unfold Qp
 induction ks with
 | nil => rfl
 | cons a ks ih =>
  rw [List.foldl_cons, show y0t [] (false, ((0 : Int), (0 : Int), (0 : Int), (0 : Int), (0 : Int))) a = (false, (0, 0, 0, 0, 0)) by
   unfold y0t yks Z5
   simp]
  exact ih
theorem y74 (q : List Int) (t : List y7) (l : List yf) (blk id : Int) (ht : TOk t) (hl : l.length ≤ 1048576) : ZP (q, t, l, blk, id) = some (ans (y8s t l blk id)) := by
 unfold ZP y8s
 have hp := QJ l id hl
 simp only [y04 l id hl, Option.bind_some]
 generalize y03 l id = p at hp
 cases p with
 | nil =>
  rw [show List.drop 1 ([] : List Int) = [] from rfl, yad]
  rfl
 | cons a p =>
  have h1 : (((a :: p).length : Int) == 0) = false := by
   simp only [List.length_cons, beq_eq_false_iff_ne, ne_eq]
   omega
  have h2 : (1 : Int) ≤ ((a :: p).length : Int) := by
   simp only [List.length_cons]
   omega
  have e : ZD (q, t, blk, List.drop (Int.toNat (1 : Int)) (List.take (Int.toNat ((a :: p).length : Int)) (a :: p))) = some (ans (Qp (vX (zh t) blk) (List.drop 1 (a :: p)))) := by
   rw [show Int.toNat ((a :: p).length : Int) = (a :: p).length by omega, List.take_length]
   exact y21 q t blk _ ht (by simp only [List.length_drop]; omega)
  simp only [h1, cond_false, h2, Int.le_refl, if_true, e, Option.bind_some]
  rw [if_pos (by omega)]
theorem y75 (q : List Int) (t : List y7) (l : List yf) (blk id : Int) (ht : TOk t) (hl : l.length ≤ 1048576) : ZV (q, t, l, blk, id) = some (ans (y8s t l blk id)) := by
 unfold ZV y8s
 have hp := QJ l id hl
 simp only [y05 l id hl, Option.bind_some]
 generalize y03 l id = p at hp
 have e : ZF (q, t, blk, List.drop (Int.toNat (if (p.length : Int) < (1 : Int) then (p.length : Int) else (1 : Int))) (List.take (Int.toNat (p.length : Int)) p)) = some (ans (Qp (vX (zh t) blk) (List.drop 1 p))) := by
  rw [show Int.toNat (p.length : Int) = p.length by omega, List.take_length]
  have : List.drop (Int.toNat (if (p.length : Int) < (1 : Int) then (p.length : Int) else (1 : Int))) p = List.drop 1 p := by
   cases p with
   | nil => rfl
   | cons a p =>
    rw [if_neg (by simp only [List.length_cons]; omega)]
    rfl
  rw [this]
  exact y06 q t blk _ ht (by simp only [List.length_drop]; omega)
 rw [if_pos (by split <;> omega), if_pos (by split <;> omega), if_pos (Int.le_refl _), e]
 rfl
def y1y (vs : List yF) (id : Int) : Bool := !Yj (Wt id) vs 0
theorem Qu (q : List Int) (t : List y7) (l : List yf) (cs : List yg) (vs : List yF) (z id : Int) (hv : vs.length ≤ 1048576) : WO (q, t, l, cs, vs, z, id) = some (y1y vs id) := by
 unfold WO y0X y1y
 refine (zA (step := wV _ _) (fun i => (id, i, q, t, l, cs, vs, z)) (Wt id) (some false) (some true) K8 vs (by omega) ?_ ?_).trans ?_
 ·intro again i h0 h1
  have hw : Go.IntKind.wrap .i64 (i + 1) = i + 1 := w64 (by omega) (by omega)
  unfold wV Wt
  have hx : vs.getD i.toNat K8 = zd vs i := rfl
  rw [hx]
  simp only [Bool.cond_eq_ite, decide_eq_true_eq, h0, h1, if_true, hw]
 ·intro again i hi
  unfold wV
  simp only [Bool.cond_eq_ite, decide_eq_true_eq, if_neg hi]
 ·cases Yj (Wt id) vs 0 <;> rfl
theorem y22 (q : List Int) (t : List y7) (l : List yf) (cs : List yg) (vs : List yF) (z id : Int) (hv : vs.length ≤ 1048576) : WZ (q, t, l, cs, vs, z, id) = some (y1y vs id) := by
 have key : yU (vs, id) = some (Z5 (fun u : yF => u.2.1 == id) vs 0, id) := by
  unfold yU Yq
  refine (YZ (step := yP _ _) (fun i => (vs, (vs.length : Int), i, id)) (fun u : yF => u.2.1 == id) (fun x => some (x, id)) (some (-1, id)) K8 vs (by omega) ?_ ?_).trans ?_
  ·intro again i h0 h1
   have hw : Go.IntKind.wrap .i64 (i + 1) = i + 1 := w64 (by omega) (by omega)
   unfold yP Kg
   simp only [Bool.cond_eq_ite, decide_eq_true_eq, h0, h1, if_true, hw, Option.bind_some]
   rfl
  ·intro again i hi
   unfold yP
   simp only [Bool.cond_eq_ite, decide_eq_true_eq, if_neg hi]
  ·rcases Kn (fun u : yF => u.2.1 == id) K8 vs 0 (Int.le_refl _) with h | ⟨h1, h2, h3⟩
   ·rw [h]
    rfl
   ·rw [if_neg (by omega)]
 unfold WZ z6 y1y
 rw [key]
 simp only [Option.bind_some, ge_iff_le]
 rw [y73 _ vs 0 0 (Int.le_refl _)]
 rfl
def kx (q : List Int) (sp : Int) : Nat → Int
 | 0 => -1
 | n + 1 => if q.getD n 0 ≤ sp then (n : Int) else kx q sp n
def JL (blk age : Int) : Int := Go.IntKind.wrap .i64 (Go.IntKind.wrap .i64 ((64 : Int) * blk) + age)
theorem y4U (q : List Int) (sp : Int) : ∀ n, -1 ≤ kx q sp n ∧ kx q sp n < n
 | 0 => by simp [kx]
 | n + 1 => by
  have := y4U q sp n
  rw [kx]
  split <;> omega
theorem Qv (q : List Int) (t : List y7) (blk age : Int) (hq : q.length ≤ 1048576) : jc (q, t, blk, age) = some (kx q (JL blk age) q.length) := by
 unfold jc qn
 have h := Yi (step := JT (fun x2 => some x2)) (fun u : JS => q.length - u.2.2.2.1.toNat) (fun u => ∃ n : Nat, n ≤ q.length ∧ u = (blk, age, kx q (JL blk age) n, (n : Int), q, t)) (fun _ => some (kx q (JL blk age) q.length)) ?_ (blk, age, -1, 0, q, t) ⟨0, by omega, rfl⟩ (by simp; omega)
 ·exact h
 ·rintro again u ⟨n, hn, rfl⟩ hag
  have hw : Go.IntKind.wrap .i64 ((n : Int) + 1) = ((n + 1 : Nat) : Int) := by rw [w64 (by omega) (by omega)]; omega
  unfold JT J2
  have h0 : 0 ≤ (n : Int) := by omega
  by_cases hlt : (n : Int) < (q.length : Int)
  ·have hx : z9 q (n : Int) = q.getD n 0 := rfl
   simp only [Bool.cond_eq_ite, decide_eq_true_eq, hlt, h0, if_true, Option.bind_some, hw, hx]
   have e := hag (blk, age, kx q (JL blk age) (n + 1), ((n + 1 : Nat) : Int), q, t) ⟨n + 1, by omega, rfl⟩ (by simp only; omega)
   rw [kx] at e
   unfold JL at e ⊢
   split
   ·rename_i hc
    rw [if_pos hc] at e
    exact e
   ·rename_i hc
    rw [if_neg hc] at e
    exact e
  ·rw [show n = q.length by omega]
   simp
theorem Qw (q : List Int) (t : List y7) (blk age : Int) (hq : q.length ≤ 1048576) : jh (q, t, blk, age) = some (kx q (JL blk age) q.length) := by
 unfold jh qr
 rw [w64 (n := (q.length : Int) - 1) (by omega) (by omega)]
 have h := Yi (step := JV (fun x2 => some x2) (fun x3 => some (-1 : Int))) (fun u : JU => (u.2.2.1 + 1).toNat) (fun u => ∃ n : Nat, n ≤ q.length ∧ u = (blk, age, (n : Int) - 1, q, t)) (fun u => some (kx q (JL blk age) (u.2.2.1 + 1).toNat)) ?_ (blk, age, (q.length : Int) - 1, q, t) ⟨q.length, by omega, rfl⟩ (by simp; omega)
 ·rw [h]
  simp only
  rw [show ((q.length : Int) - 1 + 1).toNat = q.length by omega]
 ·rintro again u ⟨n, hn, rfl⟩ hag
  unfold JV YQ
  cases n with
  | zero => simp [kx]
  | succ n =>
   have e1 : ((n + 1 : Nat) : Int) - 1 = (n : Int) := by omega
   have hw : Go.IntKind.wrap .i64 ((n : Int) - 1) = (n : Int) - 1 := w64 (by omega) (by omega)
   have hx : z9 q (n : Int) = q.getD n 0 := rfl
   have h0 : 0 ≤ (n : Int) := by omega
   have h1 : (n : Int) < (q.length : Int) := by omega
   rw [e1]
   simp only [Bool.cond_eq_ite, decide_eq_true_eq, ge_iff_le, h0, h1, if_true, Option.bind_some, hw, hx]
   have e := hag (blk, age, (n : Int) - 1, q, t) ⟨n, by omega, rfl⟩ (by simp only; omega)
   rw [e]
   simp only
   rw [show ((n : Int) - 1 + 1).toNat = n by omega, show ((n : Int) + 1).toNat = n + 1 by omega, kx]
   unfold JL
   split <;> rfl
abbrev Ans : Type := Int × Int × Int × Int × Int × Bool
def y8t : Ans := (0, 0, 0, 0, 0, false)
def atP (blk age : Int) (a : y8) : Bool := a.1 == blk && a.2.1 == age
def y8u (a : y8) : Ans := (a.1, a.2.1, a.2.2.1, a.2.2.2.1, a.2.2.2.2, true)
def vY (l : List y8) (blk age : Int) : Ans := if Z5 (atP blk age) l 0 < 0 then y8t else y8u (y0 l (Z5 (atP blk age) l 0))
theorem y15 (l : List y8) (blk age : Int) (hl : l.length ≤ 1073741824) : wd (l, blk, age) = some (vY l blk age) := by
 unfold wd y00 vY
 refine (YZ (step := JB _ _) (fun i => (l, blk, age, i, 0, 0, 0, 0, 0)) (atP blk age) (fun i => some (y8u (y0 l i))) (some y8t) z0 l (by omega) ?_ ?_).trans ?_
 ·intro again i h0 h1
  have hw : Go.IntKind.wrap .i64 (i + 1) = i + 1 := w64 (by omega) (by omega)
  unfold JB atP y8u
  obtain ⟨⟨x1, x2, x3, x4, x5⟩, hx⟩ : ∃ x, y0 l i = x := ⟨_, rfl⟩
  have hx' : l.getD i.toNat z0 = (x1, x2, x3, x4, x5) := hx
  rw [hx']
  simp only [Bool.cond_eq_ite, decide_eq_true_eq, h0, h1, if_true, hw, hx]
  cases (x1 == blk) <;> cases (x2 == age) <;> rfl
 ·intro again i hi
  unfold JB
  simp only [Bool.cond_eq_ite, decide_eq_true_eq, if_neg hi]
  rfl
 ·split <;> rfl
theorem y16 (l : List y8) (blk age : Int) (hl : l.length ≤ 1073741824) : wg (l, blk, age) = some (vY l blk age) := by
 unfold wg y02 vY
 refine (YZ (step := JF _ _) (fun i => (blk, age, l, (l.length : Int), i, 0, 0, 0, 0, 0)) (atP blk age) (fun i => some (y8u (y0 l i))) (some y8t) z0 l (by omega) ?_ ?_).trans ?_
 ·intro again i h0 h1
  have hw : Go.IntKind.wrap .i64 (i + 1) = i + 1 := w64 (by omega) (by omega)
  unfold JF atP y8u
  obtain ⟨⟨x1, x2, x3, x4, x5⟩, hx⟩ : ∃ x, y0 l i = x := ⟨_, rfl⟩
  have hx' : l.getD i.toNat z0 = (x1, x2, x3, x4, x5) := hx
  rw [hx']
  simp only [Bool.cond_eq_ite, decide_eq_true_eq, h0, h1, if_true, hw, hx]
  cases (x1 == blk) <;> cases (x2 == age) <;> rfl
 ·intro again i hi
  unfold JF
  simp only [Bool.cond_eq_ite, decide_eq_true_eq, if_neg hi]
  rfl
 ·split <;> rfl
def vZ (n : List y9) (blk age : Int) : Nat → Ans
 | 0 => y8t
 | m + 1 => if (vY (n.getD m yM) blk age).2.2.2.2.2 = true then (if ((vY (n.getD m yM) blk age).2.2.1 == 0) = true then y8t else vY (n.getD m yM) blk age) else vZ n blk age m
theorem y4b (n : List y9) (blk age : Int) (hn : n.length ≤ 1048576) (hs : ∀ s ∈ n, List.length s ≤ 1073741824) : wY (n, blk, age) = some (vZ n blk age n.length) := by
 unfold wY Q3
 rw [w64 (n := (n.length : Int) - 1) (by omega) (by omega)]
 refine (Yi (step := wX _ _) (fun u : wW => (u.2.2.1 + 1).toNat) (fun u => ∃ m : Nat, m ≤ n.length ∧ u = (blk, age, (m : Int) - 1, n, 0, 0, 0, 0, 0)) (fun u => some (vZ n blk age (u.2.2.1 + 1).toNat)) ?_ (blk, age, (n.length : Int) - 1, n, 0, 0, 0, 0, 0) ⟨n.length, by omega, rfl⟩ (by simp; omega)).trans ?_
 ·rintro again u ⟨m, hm, rfl⟩ hag
  unfold wX
  cases m with
  | zero => rfl
  | succ m =>
   have e1 : ((m + 1 : Nat) : Int) - 1 = (m : Int) := by omega
   have hw : Go.IntKind.wrap .i64 ((m : Int) - 1) = (m : Int) - 1 := w64 (by omega) (by omega)
   have h0 : 0 ≤ (m : Int) := by omega
   have h1 : (m : Int) < (n.length : Int) := by omega
   have e := y15 (yj n (m : Int)) blk age (hs _ (zj yM n (m : Int) h0 h1))
   have hx : n.getD m yM = yj n (m : Int) := rfl
   rw [e1]
   simp only [Bool.cond_eq_ite, decide_eq_true_eq, ge_iff_le, h0, h1, if_true, Option.bind_some, hw, e]
   have e' := hag (blk, age, (m : Int) - 1, n, 0, 0, 0, 0, 0) ⟨m, by omega, rfl⟩ (by simp only; omega)
   rw [e', show ((m : Int) + 1).toNat = m + 1 by omega, vZ, hx]
   simp only
   rw [show ((m : Int) - 1 + 1).toNat = m by omega]
   obtain ⟨r1, r2, r3, r4, r5, r6⟩ := vY (yj n (m : Int)) blk age
   cases r6
   ·rfl
   ·cases h3 : (r3 == 0) <;> simp [h3, y8t]
 ·simp only
  rw [show ((n.length : Int) - 1 + 1).toNat = n.length by omega]
theorem y4c (n : List y9) (blk age : Int) (hn : n.length ≤ 1048576) (hs : ∀ s ∈ n, List.length s ≤ 1073741824) : Wn (n, blk, age) = some (vZ n blk age n.length) := by
 unfold Wn Qj
 rw [w64 (n := (n.length : Int) - 1) (by omega) (by omega)]
 refine (Yi (step := Wm _ _) (fun u : Wl => (u.2.2.1 + 1).toNat) (fun u => ∃ m : Nat, m ≤ n.length ∧ u = (blk, age, (m : Int) - 1, n, 0, 0, 0, 0, 0)) (fun u => some (vZ n blk age (u.2.2.1 + 1).toNat)) ?_ (blk, age, (n.length : Int) - 1, n, 0, 0, 0, 0, 0) ⟨n.length, by omega, rfl⟩ (by simp; omega)).trans ?_
 ·rintro again u ⟨m, hm, rfl⟩ hag
  unfold Wm
  cases m with
  | zero => rfl
  | succ m =>
   have e1 : ((m + 1 : Nat) : Int) - 1 = (m : Int) := by omega
   have hw : Go.IntKind.wrap .i64 ((m : Int) - 1) = (m : Int) - 1 := w64 (by omega) (by omega)
   have h0 : 0 ≤ (m : Int) := by omega
   have h1 : (m : Int) < (n.length : Int) := by omega
   have e := y16 (yj n (m : Int)) blk age (hs _ (zj yM n (m : Int) h0 h1))
   have hx : n.getD m yM = yj n (m : Int) := rfl
   rw [e1]
   simp only [Bool.cond_eq_ite, decide_eq_true_eq, ge_iff_le, h0, h1, if_true, Option.bind_some, hw, e]
   have e' := hag (blk, age, (m : Int) - 1, n, 0, 0, 0, 0, 0) ⟨m, by omega, rfl⟩ (by simp only; omega)
   rw [e', show ((m : Int) + 1).toNat = m + 1 by omega, vZ, hx]
   simp only
   rw [show ((m : Int) - 1 + 1).toNat = m by omega]
   obtain ⟨r1, r2, r3, r4, r5, r6⟩ := vY (yj n (m : Int)) blk age
   cases r6
   ·rfl
   ·cases h3 : (r3 == 0) <;> simp [h3, y8t]
 ·simp only
  rw [show ((n.length : Int) - 1 + 1).toNat = n.length by omega]
def kU (q : List Int) (t : List y7) (blk age : Int) : Ans :=
 if inR (kx q (JL blk age) q.length) 0 ((t.length : Int) - 1) = true then vZ (ya t (kx q (JL blk age) q.length)) blk age (ya t (kx q (JL blk age) q.length)).length else y8t
theorem y0d (q : List Int) (t : List y7) (blk age : Int) (ht : TOk t) (hq : q.length ≤ 1048576) : J8 (q, t, blk, age) = some (kU q t blk age) := by
 unfold J8 kU
 have hlen := ht.len
 rw [w64 (n := (t.length : Int) - 1) (by omega) (by omega)]
 simp only [Qv q t blk age hq, k9, Option.bind_some]
 generalize kx q (JL blk age) q.length = i
 by_cases h : inR i 0 ((t.length : Int) - 1) = true
 ·obtain ⟨h0, h1⟩ := k8.1 h
  have hmem : ya t i ∈ t := zj yr t i h0 (by omega)
  obtain ⟨a1, a2⟩ := ht.node hmem
  have e := y4b (ya t i) blk age a1 (fun s hs => by have := a2 s hs; omega)
  rw [h, if_pos h0, if_pos (by omega), e]
  rfl
 ·have : inR i 0 ((t.length : Int) - 1) = false := by simpa using h
  rw [this]
  rfl
theorem y0e (q : List Int) (t : List y7) (blk age : Int) (ht : TOk t) (hq : q.length ≤ 1048576) : Jd (q, t, blk, age) = some (kU q t blk age) := by
 unfold Jd kU
 have hlen := ht.len
 rw [w64 (n := (t.length : Int) - 1) (by omega) (by omega)]
 simp only [Qw q t blk age hq, ZY, Option.bind_some]
 generalize kx q (JL blk age) q.length = i
 by_cases h : inR i 0 ((t.length : Int) - 1) = true
 ·obtain ⟨h0, h1⟩ := k8.1 h
  have hmem : ya t i ∈ t := zj yr t i h0 (by omega)
  obtain ⟨a1, a2⟩ := ht.node hmem
  have e := y4c (ya t i) blk age a1 (fun s hs => by have := a2 s hs; omega)
  rw [h, if_pos h0, if_pos (by omega), e]
  rfl
 ·have : inR i 0 ((t.length : Int) - 1) = false := by simpa using h
  rw [this]
  rfl
end Go.Proofs.YtmapoakbdgpamaaGreat.Pl
namespace Go.Proofs.YtmapoakbdgpamaaGreat.Pl
open Go.Proofs.YtmapoakbdgpamaaGreat.R Go.Proofs.YtmapoakbdgpamaaGreat.XP
def y8v (l : List yf) (vs : List yF) (id : Int) : Bool := y1y vs id && ((zv l id).length : Int) == 1
def YB (q : List Int) (t : List y7) (l : List yf) (vs : List yF) (step : Int) (k : y8) : Bool :=
 if step = 1 then !y3C t l vs k else if step = 2 then (k.2.2.1 == 2) && !(y8s t l k.1 k.2.1).1 else
  y8v l vs k.2.1 && !(kU q t k.1 ((zv l k.2.1).getD 0 0)).2.2.2.2.2
theorem yfN (l : List yf) (id : Int) : ∀ x ∈ zv l id, ∃ a ∈ l, a.1 = x := by
 have : ∀ (l : List yf) (s : List Int) (x : Int), x ∈ l.foldl (Qr id) s → x ∈ s ∨ ∃ a ∈ l, a.1 = x := by
  intro l
  induction l with
  | nil => intro s x h; exact .inl h
  | cons a l ih =>
   intro s x h
   rw [List.foldl_cons] at h
   rcases ih _ x h with h | ⟨b, hb, e⟩
   ·unfold Qr at h
    split at h
    ·rcases List.mem_append.1 h with h | h
     ·exact .inl h
     ·exact .inr ⟨a, by simp, (by simpa using h : x = a.1).symm⟩
    ·exact .inl h
   ·exact .inr ⟨b, by simp [hb], e⟩
 intro x hx
 rcases this l [] x hx with h | h
 ·simp at h
 ·exact h
theorem yb8 {A : Type} {p : A → Bool} : ∀ (l : List A) (i : Int), Yj (fun _ a => p a) l i = false → ∀ a ∈ l, p a = false
 | b :: l, i, h, a, ha => by
  rw [Yj, Bool.or_eq_false_iff] at h
  rcases List.mem_cons.1 ha with rfl | ha
  ·exact h.1
  ·exact yb8 l (i + 1) h.2 a ha
theorem yfO {l : List yf} (h : Ws l = true) : ∀ a ∈ l, 1 ≤ a.1 := by
 unfold Ws y8l at h
 simp only [Bool.and_eq_true, Bool.not_eq_true'] at h
 have h1 := h.1
 rw [ya8, Bool.or_eq_false_iff] at h1
 intro a ha
 have := yb8 (p := fun a : yf => !inR a.1 1 60) l 0 h1.1 a ha
 simp only [Bool.not_eq_false'] at this
 exact (k8.1 this).1
section
variable (q : List Int) (t : List y7) (l : List yf) (cs : List yg) (vs : List yF) (z : Int)
theorem y3L (ht : TOk t) (hq : q.length ≤ 1048576) (hl : l.length ≤ 1048576) (hv : vs.length ≤ 1048576) (hpos : ∀ a ∈ l, 1 ≤ a.1) (step : Int) (k1 k2 k3 k4 k5 : Int) : wZ (q, t, l, cs, vs, z, step, k1, k2, k3, k4, k5) = some (YB q t l vs step (k1, k2, k3, k4, k5)) := by
 unfold wZ YB
 simp only [Bool.cond_eq_ite, beq_iff_eq, y1w q t l cs vs z k1 k2 k3 k4 k5 ht hl hv, y74 q t l k1 k2 ht hl, Option.bind_some]
 by_cases h1 : step = 1
 ·simp only [h1, if_true]
 by_cases h2 : step = 2
 ·subst h2
  simp only [if_true, if_neg (show ¬ (2 : Int) = 1 by omega)]
  by_cases h3 : k3 = 2
  ·have : (k3 == 2) = true := by simp [h3]
   rw [this, if_pos h3]
   rfl
  ·have : (k3 == 2) = false := by simpa using h3
   rw [this, if_neg h3]
   rfl
 simp only [h1, h2, if_false]
 unfold kg YN y8v
 simp only [kl l k2 hl, Qu q t l cs vs z k2 hv, Option.bind_some]
 cases y1y vs k2
 ·rfl
 by_cases hk : ((zv l k2).length : Int) = 1
 ·have g1 : (((zv l k2).length : Int) != 1) = false := by simp [hk]
  have g2 : (((zv l k2).length : Int) == 1) = true := by simp [hk]
  have hlt : (0 : Int) < ((zv l k2).length : Int) := by omega
  have hne : ((zv l k2).getD 0 0 == 0) = false := by
   have hm : (zv l k2).getD 0 0 ∈ zv l k2 := zj 0 (zv l k2) 0 (Int.le_refl _) hlt
   obtain ⟨a, ha, e⟩ := yfN l k2 _ hm
   have := hpos a ha
   simp only [beq_eq_false_iff_ne, ne_eq]
   omega
  have hx : z9 (zv l k2) 0 = (zv l k2).getD 0 0 := rfl
  simp only [g1, g2, hlt, Bool.not_true, cond_false, cond_true, Option.bind_some, Int.le_refl, if_true, hx, hne, y0d q t k1 _ ht hq, Bool.true_and, Bool.and_self, Bool.and_true, Bool.true_and]
 ·have g1 : (((zv l k2).length : Int) != 1) = true := by simpa using hk
  have g2 : (((zv l k2).length : Int) == 1) = false := by simpa using hk
  simp only [g1, g2]
  rfl
theorem y3M (ht : TOk t) (hq : q.length ≤ 1048576) (hl : l.length ≤ 1048576) (hv : vs.length ≤ 1048576) (step : Int) (k1 k2 k3 k4 k5 : Int) : JG (q, t, l, cs, vs, z, step, k1, k2, k3, k4, k5) = some (YB q t l vs step (k1, k2, k3, k4, k5)) := by
 unfold JG YB
 simp only [Bool.cond_eq_ite, beq_iff_eq, y1x q t l cs vs z k1 k2 k3 k4 k5 ht hl hv, y75 q t l k1 k2 ht hl, Option.bind_some]
 by_cases h1 : step = 1
 ·simp only [h1, if_true]
 by_cases h2 : step = 2
 ·subst h2
  simp only [if_true, if_neg (show ¬ (2 : Int) = 1 by omega)]
  by_cases h3 : k3 = 2
  ·have : (k3 == 2) = true := by simp [h3]
   rw [this, if_pos h3]
   rfl
  ·have : (k3 == 2) = false := by simpa using h3
   rw [this, if_neg h3]
   rfl
 simp only [h1, h2, if_false]
 unfold y8v
 simp only [km l k2 hl, y22 q t l cs vs z k2 hv, Option.bind_some]
 cases y1y vs k2
 ·rfl
 by_cases hk : ((zv l k2).length : Int) = 1
 ·have g1 : (((zv l k2).length : Int) != 1) = false := by simp [hk]
  have g2 : (((zv l k2).length : Int) == 1) = true := by simp [hk]
  have hlt : (0 : Int) < ((zv l k2).length : Int) := by omega
  have hx : z9 (zv l k2) 0 = (zv l k2).getD 0 0 := rfl
  simp only [g1, g2, hlt, Bool.not_true, Bool.false_eq_true, if_false, Option.bind_some, Int.le_refl, if_true, hx, y0e q t k1 _ ht hq, Bool.true_and, Bool.and_self, Bool.and_true, Bool.true_and]
 ·have g1 : (((zv l k2).length : Int) != 1) = true := by simpa using hk
  have g2 : (((zv l k2).length : Int) == 1) = false := by simpa using hk
  simp only [g1, g2]
  rfl
def y76 (id : Int) (_ : Int) (k : y8) : Bool := k.2.1 == id
def yhs (ks : List y8) (l : List yf) (vs : List yF) (a : yf) : Bool := !Yj (y76 a.1) ks 0 && (y1y vs a.1 && decide (((zv l a.1).length : Int) ≤ 1))
theorem yae (ht : TOk t) (hl : l.length ≤ 1048576) (hv : vs.length ≤ 1048576) (a : yf) : W0 (q, t, l, cs, vs, z, a.1) = some (yhs (zh t) l vs a) := by
 unfold W0 Q4 yhs
 have hk := ht.keys
 have e : yJ (q, t) = some (zh t) := YG q t (by have := ht.len; omega) ht.nodes ht.sum
 simp only [e, Option.bind_some]
 generalize zh t = ks at hk
 refine (zA (step := jD _ _) (fun i => (a.1, i, q, t, l, cs, vs, z, ks)) (y76 a.1) (some false) (some (y1y vs a.1 && decide (((zv l a.1).length : Int) ≤ 1))) z0 ks (by omega) ?_ ?_).trans ?_
 ·intro again i h0 h1
  have hw : Go.IntKind.wrap .i64 (i + 1) = i + 1 := w64 (by omega) (by omega)
  unfold jD y76
  have hx : ks.getD i.toNat z0 = y0 ks i := rfl
  rw [hx]
  simp only [Bool.cond_eq_ite, decide_eq_true_eq, h0, h1, if_true, hw]
 ·intro again i hi
  unfold jD
  simp only [Bool.cond_eq_ite, decide_eq_true_eq, if_neg hi, Qu q t l cs vs z a.1 hv, kl l a.1 hl, Option.bind_some]
  cases y1y vs a.1 <;> rfl
 ·cases Yj (y76 a.1) ks 0 <;> rfl
theorem y3N (ks : List y8) (id : Int) (hk : ks.length ≤ 1048576) : JH (ks, id) = some (Yj (y76 id) ks 0) := by
 unfold JH qs
 refine (zA (step := ZW _ _) (fun i => (id, ks, (ks.length : Int), i)) (y76 id) (some true) (some false) z0 ks (by omega) ?_ ?_).trans ?_
 ·intro again i h0 h1
  have hw : Go.IntKind.wrap .i64 (i + 1) = i + 1 := w64 (by omega) (by omega)
  unfold ZW y76
  have hx : ks.getD i.toNat z0 = y0 ks i := rfl
  rw [hx]
  simp only [Bool.cond_eq_ite, decide_eq_true_eq, h0, h1, if_true, hw]
 ·intro again i hi
  unfold ZW
  simp only [Bool.cond_eq_ite, decide_eq_true_eq, if_neg hi]
 ·cases Yj (y76 id) ks 0 <;> rfl
def y3O (q : List Int) (t : List y7) (l : List yf) (vs : List yF) (_ : Int) (_ : Unit) (step : Int) : Except (Option (Int × Int)) Unit :=
 if Z5 (YB q t l vs step) (zh t) 0 < 0 then .ok () else .error (some (step, Z5 (YB q t l vs step) (zh t) 0))
def QK (t : List y7) (l : List yf) (vs : List yF) : Int × Int :=
 if Z5 (yhs (zh t) l vs) l 0 < 0 then (0, 0) else (4, Z5 (yhs (zh t) l vs) l 0)
def y77 (q : List Int) (t : List y7) (l : List yf) (cs : List yg) (vs : List yF) (z : Int) : Option (Int × Int) :=
 if kc q t l cs vs z = true then y8a (y3O q t l vs) (fun _ => some (QK t l vs)) ([1, 2, 3] : List Int) 0 () else some (0, 0)
theorem ykw (i : Int) (h0 : 0 ≤ i) (h1 : i < 3) : ([1, 2, 3] : List Int).getD i.toNat 0 = i + 1 := by
 have : i = 0 ∨ i = 1 ∨ i = 2 := by omega
 rcases this with rfl | rfl | rfl <;> rfl
theorem y8w (ht : TOk t) (hq : q.length ≤ 1048576) (hl : l.length ≤ 1048576) (hc : cs.length ≤ 1048576) (hv : vs.length ≤ 1048576) (hvn : ∀ v ∈ vs, ByteArray.size v.1 ≤ maxLen) : jE (q, t, l, cs, vs, z) = y77 q t l cs vs z := by
 unfold jE y77
 have hk := ht.keys
 have e : yJ (q, t) = some (zh t) := YG q t (by have := ht.len; omega) ht.nodes ht.sum
 simp only [y0b q t l cs vs z ht hl hc hv hvn, e, Option.bind_some]
 cases hp : kc q t l cs vs z
 ·rfl
 have hpos : ∀ a ∈ l, 1 ≤ a.1 := by
  refine yfO ?_
  unfold kc at hp
  simp only [Bool.and_eq_true] at hp
  exact hp.2.1
 simp only [Bool.not_true, cond_false, if_true]
 unfold Vt
 refine y3A (step := Zd _ _) (fun i (_ : Unit) => (i + 1, q, t, l, cs, vs, z, zh t)) (y3O q t l vs) (fun _ => some (QK t l vs)) 0 ([1, 2, 3] : List Int) (by decide) (fun _ _ => True) (fun again i s h0 h1 _ => ⟨?_, fun _ _ => trivial⟩) ?_ () trivial
 ·have h1' : i < 3 := h1
  rw [ykw i h0 h1']
  have hw : Go.IntKind.wrap .i64 (i + 1 + 1) = i + 1 + 1 := w64 (by omega) (by omega)
  unfold Zd y3O
  have hle : i + 1 ≤ 3 := by omega
  simp only [Bool.cond_eq_ite, decide_eq_true_eq, hle, if_true]
  unfold Vs
  refine (YZ (step := Zc _ _) (fun j => (i + 1, j, q, t, l, cs, vs, z, zh t)) (YB q t l vs (i + 1)) (fun j => some (i + 1, j)) (again (i + 1 + 1, q, t, l, cs, vs, z, zh t)) z0 (zh t) (by omega) ?_ ?_).trans ?_
  ·intro again' j j0 j1
   have hwj : Go.IntKind.wrap .i64 (j + 1) = j + 1 := w64 (by omega) (by omega)
   unfold Zc
   obtain ⟨⟨x1, x2, x3, x4, x5⟩, hx⟩ : ∃ x, y0 (zh t) j = x := ⟨_, rfl⟩
   have hx' : (zh t).getD j.toNat z0 = (x1, x2, x3, x4, x5) := hx
   rw [hx']
   simp only [Bool.cond_eq_ite, decide_eq_true_eq, j0, j1, if_true, hwj, hx, y3L q t l cs vs z ht hq hl hv hpos (i + 1) x1 x2 x3 x4 x5, Option.bind_some]
  ·intro again' j hj
   unfold Zc
   simp only [Bool.cond_eq_ite, decide_eq_true_eq, if_neg hj, hw]
  ·split <;> rfl
 ·intro again i s hi
  have hi' : ¬ i < 3 := hi
  have hle : ¬ i + 1 ≤ 3 := by omega
  unfold Zd
  simp only [Bool.cond_eq_ite, decide_eq_true_eq, if_neg hle]
  unfold vP QK
  refine (YZ (step := YO _ _) (fun j => (j, q, t, l, cs, vs, z)) (yhs (zh t) l vs) (fun j => some (4, j)) (some (0, 0)) Y1 l (by omega) ?_ ?_).trans ?_
  ·intro again' j j0 j1
   have hwj : Go.IntKind.wrap .i64 (j + 1) = j + 1 := w64 (by omega) (by omega)
   unfold YO
   have hx : l.getD j.toNat Y1 = yD l j := rfl
   rw [hx]
   simp only [Bool.cond_eq_ite, decide_eq_true_eq, j0, j1, if_true, hwj, yae q t l cs vs z ht hl hv (yD l j), Option.bind_some]
  ·intro again' j hj
   unfold YO
   simp only [Bool.cond_eq_ite, decide_eq_true_eq, if_neg hj]
  ·split <;> rfl
theorem y8x (ht : TOk t) (hq : q.length ≤ 1048576) (hl : l.length ≤ 1048576) (hc : cs.length ≤ 1048576) (hv : vs.length ≤ 1048576) (hvn : ∀ v ∈ vs, ByteArray.size v.1 ≤ maxLen) : jR (q, t, l, cs, vs, z) = y77 q t l cs vs z := by
 unfold jR y77
 have hk := ht.keys
 have e : zg (q, t) = some (zh t) := JW q t (by have := ht.len; omega) ht.nodes ht.sum
 simp only [y0c q t l cs vs z ht hl hc hv hvn, e, Option.bind_some]
 cases hp : kc q t l cs vs z
 ·rfl
 simp only [Bool.not_true, cond_false, if_true]
 unfold VA
 refine y3A (step := Zl _ _) (fun i (_ : Unit) => (3, i, q, t, l, cs, vs, z, zh t, [1, 2, 3])) (y3O q t l vs) (fun _ => some (QK t l vs)) 0 ([1, 2, 3] : List Int) (by decide) (fun _ _ => True) (fun again i s h0 h1 _ => ⟨?_, fun _ _ => trivial⟩) ?_ () trivial
 ·have h1' : i < 3 := h1
  have hx : z9 ([1, 2, 3] : List Int) i = i + 1 := ykw i h0 h1'
  have h1'' : i < ((([1, 2, 3] : List Int).length : Nat) : Int) := h1
  rw [ykw i h0 h1']
  have hw : Go.IntKind.wrap .i64 (i + 1) = i + 1 := w64 (by omega) (by omega)
  unfold Zl y3O
  simp only [Bool.cond_eq_ite, decide_eq_true_eq, h0, h1', h1'', hx, if_true]
  unfold Vz
  refine (YZ (step := Zk _ _) (fun j => (i + 1, 3, i, ((zh t).length : Int), j, q, t, l, cs, vs, z, zh t, [1, 2, 3])) (YB q t l vs (i + 1)) (fun j => some (i + 1, j)) (again (3, i + 1, q, t, l, cs, vs, z, zh t, [1, 2, 3])) z0 (zh t) (by omega) ?_ ?_).trans ?_
  ·intro again' j j0 j1
   have hwj : Go.IntKind.wrap .i64 (j + 1) = j + 1 := w64 (by omega) (by omega)
   unfold Zk
   obtain ⟨⟨x1, x2, x3, x4, x5⟩, hx⟩ : ∃ x, y0 (zh t) j = x := ⟨_, rfl⟩
   have hx' : (zh t).getD j.toNat z0 = (x1, x2, x3, x4, x5) := hx
   rw [hx']
   simp only [Bool.cond_eq_ite, decide_eq_true_eq, j0, j1, if_true, hwj, hx, y3M q t l cs vs z ht hq hl hv (i + 1) x1 x2 x3 x4 x5, Option.bind_some]
  ·intro again' j hj
   unfold Zk
   simp only [Bool.cond_eq_ite, decide_eq_true_eq, if_neg hj, hw]
  ·split <;> rfl
 ·intro again i s hi
  have hi' : ¬ i < 3 := hi
  unfold Zl
  simp only [Bool.cond_eq_ite, decide_eq_true_eq, if_neg hi']
  unfold vV QK
  refine (YZ (step := YW _ _) (fun j => (l, (l.length : Int), j, q, t, l, cs, vs, z, zh t)) (yhs (zh t) l vs) (fun j => some (4, j)) (some (0, 0)) Y1 l (by omega) ?_ ?_).trans ?_
  ·intro again' j j0 j1
   have hwj : Go.IntKind.wrap .i64 (j + 1) = j + 1 := w64 (by omega) (by omega)
   unfold YW yhs
   have hx : l.getD j.toNat Y1 = yD l j := rfl
   rw [hx]
   simp only [Bool.cond_eq_ite, decide_eq_true_eq, j0, j1, if_true, hwj, y22 q t l cs vs z _ hv, km l _ hl, y3N (zh t) _ hk, Option.bind_some]
   cases y1y vs (yD l j).1 <;> cases Yj (y76 (yD l j).1) (zh t) 0 <;> by_cases hkk : ((zv l (yD l j).1).length : Int) ≤ 1 <;> simp [hkk]
  ·intro again' j hj
   unfold YW
   simp only [Bool.cond_eq_ite, decide_eq_true_eq, if_neg hj]
  ·split <;> rfl
theorem y8y {S A R : Type} (g : Int → S → A → Except (Option R) S) (k : S → Option R) (hg : ∀ i s a r, g i s a = .error r → ∃ x, r = some x) (hk : ∀ s, ∃ x, k s = some x) : ∀ (l : List A) (i : Int) (s : S), ∃ x, y8a g k l i s = some x
 | [], i, s => hk s
 | a :: l, i, s => by
  rw [y8a]
  cases h : g i s a with
  | error r => exact hg i s a r h
  | ok s' => exact y8y g k hg hk l (i + 1) s'
theorem y4V : ∃ r, y77 q t l cs vs z = some r := by
 unfold y77
 split
 ·refine y8y _ _ (fun i s a r h => ?_) (fun s => ⟨_, rfl⟩) _ _ _
  unfold y3O at h
  split at h
  ·cases h
  ·injection h with h
   exact ⟨_, h.symm⟩
 ·exact ⟨_, rfl⟩
end
end Go.Proofs.YtmapoakbdgpamaaGreat.Pl
namespace Go.Proofs.YtmapoakbdgpamaaGreat.Pl
open Go.Proofs.YtmapoakbdgpamaaGreat.R Go.Proofs.YtmapoakbdgpamaaGreat.XP
theorem y78 {A : Type} (p : Int → A → Bool) : ∀ (l : List A) (i : Int), Yj p l i = false → ∀ a ∈ l, ∃ j, p j a = false
 | [], _, _, a, h => by simp at h
 | b :: l, i, h, a, ha => by
  simp only [Yj, Bool.or_eq_false_iff] at h
  rcases List.mem_cons.1 ha with rfl | ha
  ·exact ⟨i, h.1⟩
  ·exact y78 p l (i + 1) h.2 a ha
theorem yb9 {s : List y8} (h : qt s = true) : s.length ≤ 60 ∧ ∀ k ∈ s, JK k = true := by
 unfold qt at h
 simp only [Bool.and_eq_true, Bool.not_eq_true', decide_eq_true_eq] at h
 refine ⟨by omega, fun k hk => ?_⟩
 obtain ⟨j, hj⟩ := y78 _ s 0 h.1 k hk
 simpa using hj
theorem ye7 {n : List y9} (h : Ye n = true) : n.length ≤ 3 ∧ ∀ s ∈ n, qt s = true := by
 unfold Ye at h
 simp only [Bool.and_eq_true, Bool.not_eq_true', decide_eq_true_eq] at h
 refine ⟨by omega, fun s hs => ?_⟩
 obtain ⟨j, hj⟩ := y78 _ n 0 h.1 s hs
 unfold y14 at hj
 simp only [Bool.or_eq_false_iff, Bool.not_eq_false'] at hj
 exact hj.1
theorem vt {q : List Int} {t : List y7} (h : YA q t = true) : q.length = t.length ∧ 1 ≤ t.length ∧ t.length ≤ 20 ∧ ∀ n ∈ t, Ye n = true := by
 unfold YA at h
 simp only [Bool.and_eq_true, Bool.not_eq_true', decide_eq_true_eq, k8] at h
 obtain ⟨h1, h2, _, h3, _⟩ := h
 refine ⟨h2, by omega, by omega, fun n hn => ?_⟩
 obtain ⟨j, hj⟩ := y78 _ t 0 h3 n hn
 unfold Qq at hj
 simp only [Bool.or_eq_false_iff, Bool.not_eq_false'] at hj
 have h4 := hj.2
 unfold yaa at h4
 simp only [Bool.and_eq_true] at h4
 exact h4.1
end Go.Proofs.YtmapoakbdgpamaaGreat.Pl
