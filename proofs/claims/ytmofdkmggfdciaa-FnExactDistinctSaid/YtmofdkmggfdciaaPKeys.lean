/- Sets of keys: both sides put, merge, drop and collect alike. No condition. -/
import Derived.Test.YtmofdkmggfdciaaPLoops
namespace Go.Proofs.Ytmofdkmggfdciaa.Pl
open Go.Proofs.Ytmofdkmggfdciaa.R Go.Proofs.Ytmofdkmggfdciaa.XQ
set_option linter.unusedVariables false
set_option linter.unusedSimpArgs false

/-- A loop that folds a list. -/
theorem fold_loop {T A S R : Type} {step : (T → Option R) → T → Option R} (mk : Int → S → T) (k : S → Option R) (da : A) (g : S → A → S) (l : List A) (hl : l.length ≤ 1099511627776) (I : Nat → S → Prop)
    (h : ∀ again i s, 0 ≤ i → i < (l.length : Int) → I i.toNat s → step again (mk i s) = again (mk (i + 1) (g s (l.getD i.toNat da))) ∧ I (i.toNat + 1) (g s (l.getD i.toNat da)))
    (hd : ∀ again i s, ¬ i < (l.length : Int) → step again (mk i s) = k s) (s : S) (hs : I 0 s) : iter step FUEL (mk 0 s) = k (l.foldl g s) := by
  have key : ∀ (n : Nat) (i : Int) (s : S), 0 ≤ i → i ≤ l.length → I i.toNat s → l.length - i.toNat < n → iter step n (mk i s) = k ((l.drop i.toNat).foldl g s) := by
    intro n
    induction n with
    | zero => intro i s _ _ _ hn; omega
    | succ n ih =>
      intro i s h0 h1 hI hn
      rw [iter]
      by_cases hi : i < (l.length : Int)
      · obtain ⟨e, hI'⟩ := h (iter step n) i s h0 hi hI
        have e1 : (i + 1).toNat = i.toNat + 1 := by omega
        rw [e, ih (i + 1) _ (by omega) (by omega) (by rw [e1]; exact hI') (by omega), drop_getD da l i h0 hi]
        rfl
      · rw [hd _ i s hi, List.drop_of_length_le (by omega)]
        rfl
  have := key FUEL 0 s (by omega) (by omega) hs (by rw [FUEL_eq]; simp; omega)
  simpa using this

def lessK (c k : E_Key) : Bool := if c.1 < k.1 then true else if c.1 = k.1 then decide (c.2.1 < k.2.1) else false
def sameK (c k : E_Key) : Bool := decide (c.1 = k.1) && decide (c.2.1 = k.2.1)
theorem spec_LessKey_eq (a1 a2 a3 a4 a5 b1 b2 b3 b4 b5 : Int) : F_spec_LessKey (a1, a2, a3, a4, a5, b1, b2, b3, b4, b5) = some (lessK (a1, a2, a3, a4, a5) (b1, b2, b3, b4, b5)) := by
  unfold F_spec_LessKey lessK
  by_cases h : a1 = b1
  · subst h
    simp
  · have hb : (a1 == b1) = false := by simpa using h
    have hb' : (a1 != b1) = true := by simpa using h
    by_cases h2 : a1 < b1 <;> simp [h, h2, hb, hb']
theorem impl_LessKey_eq (a1 a2 a3 a4 a5 b1 b2 b3 b4 b5 : Int) : F_impl_LessKey (a1, a2, a3, a4, a5, b1, b2, b3, b4, b5) = some (lessK (a1, a2, a3, a4, a5) (b1, b2, b3, b4, b5)) := by
  unfold F_impl_LessKey lessK
  by_cases h : a1 = b1
  · subst h
    simp
  · have hb : (a1 == b1) = false := by simpa using h
    have hb' : (a1 != b1) = true := by simpa using h
    by_cases h2 : a1 < b1 <;> simp [h, h2, hb, hb']
theorem spec_SameSpot_eq (a1 a2 a3 a4 a5 b1 b2 b3 b4 b5 : Int) : F_spec_SameSpot (a1, a2, a3, a4, a5, b1, b2, b3, b4, b5) = some (sameK (a1, a2, a3, a4, a5) (b1, b2, b3, b4, b5)) := by
  unfold F_spec_SameSpot sameK
  have e1 : (a1 == b1) = decide (a1 = b1) := rfl
  have e2 : (a2 == b2) = decide (a2 = b2) := rfl
  simp only [e1, e2]
  cases decide (a1 = b1) <;> cases decide (a2 = b2) <;> rfl
theorem impl_SameSpot_eq (a1 a2 a3 a4 a5 b1 b2 b3 b4 b5 : Int) : F_impl_SameSpot (a1, a2, a3, a4, a5, b1, b2, b3, b4, b5) = some (sameK (a1, a2, a3, a4, a5) (b1, b2, b3, b4, b5)) := by
  unfold F_impl_SameSpot sameK
  have e1 : (a1 == b1) = decide (a1 = b1) := rfl
  have e2 : (a2 == b2) = decide (a2 = b2) := rfl
  simp only [e1, e2]
  cases decide (a1 = b1) <;> cases decide (a2 = b2) <;> rfl

/-! ### Put a key -/
theorem lt40 {n k : Nat} (h : n ≤ 1073741825) (hk : (1073741825 + k) * 40 < 140737488355328) : (n + k) * 40 < 140737488355328 := by omega
def spOne (k : E_Key) (s : Bool × List E_Key) (c : E_Key) : Bool × List E_Key :=
  if s.1 = false ∧ lessK c k = false then (true, if sameK c k then s.2 ++ [k] else s.2 ++ [k] ++ [c]) else (s.1, if sameK c k then s.2 else s.2 ++ [c])
def setPut (l : List E_Key) (k : E_Key) : List E_Key :=
  let r := l.foldl (spOne k) (false, [])
  if r.1 then r.2 else r.2 ++ [k]
def pN (p : Bool) : Nat := if p then 1 else 0
theorem spOne_len (k : E_Key) (s : Bool × List E_Key) (c : E_Key) : (spOne k s c).2.length + pN s.1 ≤ s.2.length + 1 + pN (spOne k s c).1 ∧ pN (spOne k s c).1 ≤ 1 := by
  unfold spOne pN
  obtain ⟨p, o⟩ := s
  cases p <;> cases lessK c k <;> cases sameK c k <;> simp
theorem spFold_len (k : E_Key) : ∀ (l : List E_Key) (s : Bool × List E_Key), (l.foldl (spOne k) s).2.length + pN s.1 ≤ s.2.length + l.length + pN (l.foldl (spOne k) s).1
  | [], s => by simp
  | c :: l, s => by
    have h1 := (spOne_len k s c).1
    have h2 := spFold_len k l (spOne k s c)
    simp only [List.foldl_cons, List.length_cons] at h2 ⊢
    omega
theorem setPut_len (l : List E_Key) (k : E_Key) : (setPut l k).length ≤ l.length + 1 := by
  have h := spFold_len k l (false, [])
  unfold setPut
  simp only [pN, List.length_nil, Bool.false_eq_true, if_false] at h ⊢
  cases hr : (l.foldl (spOne k) (false, [])).1 with
  | true =>
    rw [hr] at h
    simp at h ⊢
    omega
  | false =>
    rw [hr] at h
    simp at h ⊢
    omega
theorem spec_SetPut_step {R : Type} (k0 : Bool × Int × Int × Int × Int × Int × List E_Key → Option R) (again : T_spec_SetPut_4 → Option R) (l : List E_Key) (i : Int) (p : Bool) (a b c d e : Int) (o : List E_Key) (hl : l.length ≤ 1073741824) (h0 : 0 ≤ i) (h1 : i < (l.length : Int)) (ho : o.length ≤ 1073741825) :
    S_spec_SetPut_4 k0 again (l, p, i, a, b, c, d, e, o) = again (l, (spOne (a, b, c, d, e) (p, o) (l.getD i.toNat z_Key)).1, i + 1, a, b, c, d, e, (spOne (a, b, c, d, e) (p, o) (l.getD i.toNat z_Key)).2) := by
  have hw : Go.IntKind.wrap .i64 (i + 1) = i + 1 := w64 (by omega) (by omega)
  have c1 : (o.length + (0 + 1)) * 40 < 140737488355328 := lt40 ho (by decide)
  have c2 : (o.length + (0 + 1) + (0 + 1)) * 40 < 140737488355328 := by rw [Nat.add_assoc]; exact lt40 ho (by decide)
  obtain ⟨⟨x1, x2, x3, x4, x5⟩, hx⟩ : ∃ x, rd_Key l i = x := ⟨_, rfl⟩
  have hx' : l.getD i.toNat z_Key = (x1, x2, x3, x4, x5) := hx
  rw [hx']
  unfold S_spec_SetPut_4
  simp only [Bool.cond_eq_ite, decide_eq_true_eq, h0, h1, if_true, hw, hx, spec_LessKey_eq, spec_SameSpot_eq, Option.bind_some, List.length_append, List.length_cons, List.length_nil]
  unfold spOne
  generalize lessK (x1, x2, x3, x4, x5) (a, b, c, d, e) = q1
  generalize sameK (x1, x2, x3, x4, x5) (a, b, c, d, e) = q2
  simp only [c1, c2, if_true]
  cases p <;> cases q1 <;> cases q2 <;> rfl
theorem spec_SetPut_loop {R : Type} (k0 : Bool × Int × Int × Int × Int × Int × List E_Key → Option R) (l : List E_Key) (a b c d e : Int) (hl : l.length ≤ 1073741824) :
    L_spec_SetPut_4 k0 (l, false, 0, a, b, c, d, e, []) = k0 ((l.foldl (spOne (a, b, c, d, e)) (false, [])).1, a, b, c, d, e, (l.foldl (spOne (a, b, c, d, e)) (false, [])).2) := by
  unfold L_spec_SetPut_4
  refine fold_loop (step := S_spec_SetPut_4 k0) (fun (i : Int) (s : Bool × List E_Key) => (l, s.1, i, a, b, c, d, e, s.2)) (fun s => k0 (s.1, a, b, c, d, e, s.2)) z_Key (spOne (a, b, c, d, e)) l (by omega) (fun i s => s.2.length ≤ i + pN s.1) ?_ ?_ (false, []) (by simp)
  · rintro again i ⟨p, o⟩ h0 h1 hI
    have hp : pN p ≤ 1 := by cases p <;> decide
    have hI' : o.length ≤ i.toNat + pN p := hI
    clear hI
    refine ⟨spec_SetPut_step k0 again l i p a b c d e o hl h0 h1 (by omega), ?_⟩
    have ho := (spOne_len (a, b, c, d, e) (p, o) (l.getD i.toNat z_Key)).1
    show (spOne (a, b, c, d, e) (p, o) (l.getD i.toNat z_Key)).2.length ≤ i.toNat + 1 + pN (spOne (a, b, c, d, e) (p, o) (l.getD i.toNat z_Key)).1
    generalize (spOne (a, b, c, d, e) (p, o) (l.getD i.toNat z_Key)) = r at ho ⊢
    simp only at ho
    omega
  · rintro again i ⟨p, o⟩ hi
    show S_spec_SetPut_4 k0 again (l, p, i, a, b, c, d, e, o) = _
    unfold S_spec_SetPut_4
    simp only [Bool.cond_eq_ite, decide_eq_true_eq, if_neg hi]
theorem spec_SetPut_eq (l : List E_Key) (a b c d e : Int) (hl : l.length ≤ 1073741824) : F_spec_SetPut (l, a, b, c, d, e) = some (setPut l (a, b, c, d, e)) := by
  have hlen := spFold_len (a, b, c, d, e) l (false, [])
  unfold F_spec_SetPut setPut
  rw [spec_SetPut_loop _ l a b c d e hl]
  generalize l.foldl (spOne (a, b, c, d, e)) (false, []) = r at hlen ⊢
  obtain ⟨q, o⟩ := r
  cases q with
  | true => rfl
  | false =>
    simp only [pN, List.length_nil, Bool.false_eq_true, if_false] at hlen
    simp only [Bool.not_false, cond_true, List.length_cons, List.length_nil, Bool.false_eq_true, if_false]
    rw [if_pos (by omega)]
theorem impl_SetPut_step {R : Type} (k0 : Bool × Int × Int × Int × Int × Int × List E_Key → Option R) (again : T_impl_SetPut_4 → Option R) (l : List E_Key) (i : Int) (p : Bool) (a b c d e : Int) (o : List E_Key) (hl : l.length ≤ 1073741824) (h0 : 0 ≤ i) (h1 : i < (l.length : Int)) (ho : o.length ≤ 1073741825) :
    S_impl_SetPut_4 k0 again (p, l, (l.length : Int), i, a, b, c, d, e, o) = again ((spOne (a, b, c, d, e) (p, o) (l.getD i.toNat z_Key)).1, l, (l.length : Int), i + 1, a, b, c, d, e, (spOne (a, b, c, d, e) (p, o) (l.getD i.toNat z_Key)).2) := by
  have hw : Go.IntKind.wrap .i64 (i + 1) = i + 1 := w64 (by omega) (by omega)
  have c1 : (o.length + (0 + 1)) * 40 < 140737488355328 := lt40 ho (by decide)
  have c2 : (o.length + (0 + 1) + (0 + 1)) * 40 < 140737488355328 := by rw [Nat.add_assoc]; exact lt40 ho (by decide)
  obtain ⟨⟨x1, x2, x3, x4, x5⟩, hx⟩ : ∃ x, rd_Key l i = x := ⟨_, rfl⟩
  have hx' : l.getD i.toNat z_Key = (x1, x2, x3, x4, x5) := hx
  rw [hx']
  unfold S_impl_SetPut_4
  simp only [Bool.cond_eq_ite, decide_eq_true_eq, h0, h1, if_true, hw, hx, impl_LessKey_eq, impl_SameSpot_eq, Option.bind_some, List.length_append, List.length_cons, List.length_nil]
  unfold spOne
  generalize lessK (x1, x2, x3, x4, x5) (a, b, c, d, e) = q1
  generalize sameK (x1, x2, x3, x4, x5) (a, b, c, d, e) = q2
  simp only [c1, c2, if_true]
  cases p <;> cases q1 <;> cases q2 <;> rfl
theorem impl_SetPut_loop {R : Type} (k0 : Bool × Int × Int × Int × Int × Int × List E_Key → Option R) (l : List E_Key) (a b c d e : Int) (hl : l.length ≤ 1073741824) :
    L_impl_SetPut_4 k0 (false, l, (l.length : Int), 0, a, b, c, d, e, []) = k0 ((l.foldl (spOne (a, b, c, d, e)) (false, [])).1, a, b, c, d, e, (l.foldl (spOne (a, b, c, d, e)) (false, [])).2) := by
  unfold L_impl_SetPut_4
  refine fold_loop (step := S_impl_SetPut_4 k0) (fun (i : Int) (s : Bool × List E_Key) => (s.1, l, (l.length : Int), i, a, b, c, d, e, s.2)) (fun s => k0 (s.1, a, b, c, d, e, s.2)) z_Key (spOne (a, b, c, d, e)) l (by omega) (fun i s => s.2.length ≤ i + pN s.1) ?_ ?_ (false, []) (by simp)
  · rintro again i ⟨p, o⟩ h0 h1 hI
    have hp : pN p ≤ 1 := by cases p <;> decide
    have hI' : o.length ≤ i.toNat + pN p := hI
    clear hI
    refine ⟨impl_SetPut_step k0 again l i p a b c d e o hl h0 h1 (by omega), ?_⟩
    have ho := (spOne_len (a, b, c, d, e) (p, o) (l.getD i.toNat z_Key)).1
    show (spOne (a, b, c, d, e) (p, o) (l.getD i.toNat z_Key)).2.length ≤ i.toNat + 1 + pN (spOne (a, b, c, d, e) (p, o) (l.getD i.toNat z_Key)).1
    generalize (spOne (a, b, c, d, e) (p, o) (l.getD i.toNat z_Key)) = r at ho ⊢
    simp only at ho
    omega
  · rintro again i ⟨p, o⟩ hi
    show S_impl_SetPut_4 k0 again (p, l, (l.length : Int), i, a, b, c, d, e, o) = _
    unfold S_impl_SetPut_4
    simp only [Bool.cond_eq_ite, decide_eq_true_eq, if_neg hi]
theorem impl_SetPut_eq (l : List E_Key) (a b c d e : Int) (hl : l.length ≤ 1073741824) : F_impl_SetPut (l, a, b, c, d, e) = some (setPut l (a, b, c, d, e)) := by
  have hlen := spFold_len (a, b, c, d, e) l (false, [])
  unfold F_impl_SetPut setPut
  rw [impl_SetPut_loop _ l a b c d e hl]
  generalize l.foldl (spOne (a, b, c, d, e)) (false, []) = r at hlen ⊢
  obtain ⟨q, o⟩ := r
  cases q with
  | true => rfl
  | false =>
    simp only [pN, List.length_nil, Bool.false_eq_true, if_false] at hlen
    simp only [Bool.not_false, cond_true, List.length_cons, List.length_nil, Bool.false_eq_true, if_false]
    rw [if_pos (by omega)]
end Go.Proofs.Ytmofdkmggfdciaa.Pl
