/- Ages, paths, what is seen: both sides alike. No condition. -/
import Derived.Test.YtmofdkmggfdciaaPTree
namespace Go.Proofs.Ytmofdkmggfdciaa.Pl
open Go.Proofs.Ytmofdkmggfdciaa.R Go.Proofs.Ytmofdkmggfdciaa.XQ
set_option linter.unusedVariables false
set_option linter.unusedSimpArgs false

/-! ### Loops that end early -/
/-- A walk over a list: each round goes on with a state or answers. -/
def runE {S A R : Type} (g : Int → S → A → Except (Option R) S) (k : S → Option R) : List A → Int → S → Option R
  | [], _, s => k s
  | a :: l, i, s => match g i s a with
    | .error r => r
    | .ok s' => runE g k l (i + 1) s'
theorem runE_loop {T A S R : Type} {step : (T → Option R) → T → Option R} (mk : Int → S → T) (g : Int → S → A → Except (Option R) S) (k : S → Option R) (da : A) (l : List A) (hl : l.length ≤ 1099511627776) (I : Nat → S → Prop)
    (h : ∀ again i s, 0 ≤ i → i < (l.length : Int) → I i.toNat s → (step again (mk i s) = match g i s (l.getD i.toNat da) with
      | .error r => r
      | .ok s' => again (mk (i + 1) s')) ∧ ∀ s', g i s (l.getD i.toNat da) = .ok s' → I (i.toNat + 1) s')
    (hd : ∀ again i s, ¬ i < (l.length : Int) → step again (mk i s) = k s) (s : S) (hs : I 0 s) : iter step FUEL (mk 0 s) = runE g k l 0 s := by
  have key : ∀ (n : Nat) (i : Int) (s : S), 0 ≤ i → i ≤ l.length → I i.toNat s → l.length - i.toNat < n → iter step n (mk i s) = runE g k (l.drop i.toNat) i s := by
    intro n
    induction n with
    | zero => intro i s _ _ _ hn; omega
    | succ n ih =>
      intro i s h0 h1 hI hn
      rw [iter]
      by_cases hi : i < (l.length : Int)
      · obtain ⟨e, hI'⟩ := h (iter step n) i s h0 hi hI
        have e1 : (i + 1).toNat = i.toNat + 1 := by omega
        rw [e, drop_getD da l i h0 hi, runE]
        cases hg : g i s (l.getD i.toNat da) with
        | error r => rfl
        | ok s' => exact ih (i + 1) s' (by omega) (by omega) (by rw [e1]; exact hI' s' hg) (by omega)
      · rw [hd _ i s hi, List.drop_of_length_le (by omega)]
        rfl
  have := key FUEL 0 s (by omega) (by omega) hs (by rw [FUEL_eq]; simp; omega)
  simpa using this
/-- The first place where p holds, counted from i; -1: there is none. -/
def findI {A : Type} (p : A → Bool) : List A → Int → Int
  | [], _ => -1
  | a :: l, i => if p a then i else findI p l (i + 1)
theorem runE_find {A R : Type} (p : A → Bool) (hit : Int → Option R) (miss : Option R) : ∀ (l : List A) (i : Int), 0 ≤ i → runE (fun i (_ : Unit) a => if p a then .error (hit i) else .ok ()) (fun _ => miss) l i () = if findI p l i < 0 then miss else hit (findI p l i)
  | [], i, _ => by simp [runE, findI]
  | a :: l, i, h => by
    rw [runE, findI]
    by_cases hp : p a = true
    · rw [if_pos hp, if_pos hp, if_neg (by omega)]
    · rw [if_neg hp, if_neg hp]
      exact runE_find p hit miss l (i + 1) (by omega)
theorem find_loop {T A R : Type} {step : (T → Option R) → T → Option R} (mk : Int → T) (p : A → Bool) (hit : Int → Option R) (miss : Option R) (da : A) (l : List A) (hl : l.length ≤ 1099511627776)
    (h : ∀ again i, 0 ≤ i → i < (l.length : Int) → step again (mk i) = if p (l.getD i.toNat da) then hit i else again (mk (i + 1)))
    (hd : ∀ again i, ¬ i < (l.length : Int) → step again (mk i) = miss) : iter step FUEL (mk 0) = if findI p l 0 < 0 then miss else hit (findI p l 0) := by
  rw [← runE_find p hit miss l 0 (Int.le_refl _)]
  refine runE_loop (fun i (_ : Unit) => mk i) _ _ da l hl (fun _ _ => True) (fun again i s h0 h1 _ => ⟨?_, fun _ _ => trivial⟩) (fun again i s hi => hd again i hi) () trivial
  rw [h again i h0 h1]
  cases p (l.getD i.toNat da) <;> rfl
theorem findI_spec {A : Type} (p : A → Bool) (da : A) : ∀ (l : List A) (i : Int), 0 ≤ i → findI p l i = -1 ∨ (i ≤ findI p l i ∧ findI p l i < i + l.length ∧ p (l.getD (findI p l i - i).toNat da) = true)
  | [], i, _ => .inl rfl
  | a :: l, i, h => by
    rw [findI]
    by_cases hp : p a = true
    · rw [if_pos hp]
      refine .inr ⟨Int.le_refl _, by simp only [List.length_cons]; omega, ?_⟩
      simpa using hp
    · rw [if_neg hp]
      rcases findI_spec p da l (i + 1) (by omega) with e | ⟨e1, e2, e3⟩
      · exact .inl e
      · refine .inr ⟨by omega, by simp only [List.length_cons]; omega, ?_⟩
        rw [show (findI p l (i + 1) - i).toNat = (findI p l (i + 1) - (i + 1)).toNat + 1 by omega, List.getD_cons_succ]
        exact e3

/-! ### Ages -/
def ageAt (l : List E_Age) (id : Int) : Int := findI (fun a : E_Age => a.1 == id) l 0
theorem ageAt_spec (l : List E_Age) (id : Int) : ageAt l id = -1 ∨ (0 ≤ ageAt l id ∧ ageAt l id < l.length ∧ (l.getD (ageAt l id).toNat z_Age).1 = id) := by
  rcases findI_spec (fun a : E_Age => a.1 == id) z_Age l 0 (Int.le_refl _) with h | ⟨h1, h2, h3⟩
  · exact .inl h
  · refine .inr ⟨h1, by simpa [ageAt] using h2, ?_⟩
    have := eq_of_beq h3
    simpa [ageAt] using this
theorem spec_AgeAt_eq (l : List E_Age) (id : Int) (hl : l.length ≤ 1073741824) : F_spec_AgeAt (l, id) = some (ageAt l id) := by
  unfold F_spec_AgeAt L_spec_AgeAt_2
  refine (find_loop (step := S_spec_AgeAt_2 _ _) (fun i => (l, id, i)) (fun a : E_Age => a.1 == id) (fun x => some x) (some (-1)) z_Age l (by omega) ?_ ?_).trans ?_
  · intro again i h0 h1
    have hw : Go.IntKind.wrap .i64 (i + 1) = i + 1 := w64 (by omega) (by omega)
    unfold S_spec_AgeAt_2
    simp only [Bool.cond_eq_ite, decide_eq_true_eq, h0, h1, if_true, hw]
    rfl
  · intro again i hi
    unfold S_spec_AgeAt_2
    simp only [Bool.cond_eq_ite, decide_eq_true_eq, if_neg hi]
  · rcases ageAt_spec l id with h | ⟨h1, h2, h3⟩ <;> unfold ageAt at *
    · rw [h]
      rfl
    · rw [if_neg (by omega)]
theorem impl_AgeAt_eq (l : List E_Age) (id : Int) (hl : l.length ≤ 1073741824) : F_impl_AgeAt (l, id) = some (ageAt l id) := by
  have key : F_slices_IndexFunc_n100000 (l, id) = some (ageAt l id, id) := by
    unfold F_slices_IndexFunc_n100000 L_slices_IndexFunc_n100000_2
    refine (find_loop (step := S_slices_IndexFunc_n100000_2 _ _) (fun i => (l, (l.length : Int), i, id)) (fun a : E_Age => a.1 == id) (fun x => some (x, id)) (some (-1, id)) z_Age l (by omega) ?_ ?_).trans ?_
    · intro again i h0 h1
      have hw : Go.IntKind.wrap .i64 (i + 1) = i + 1 := w64 (by omega) (by omega)
      unfold S_slices_IndexFunc_n100000_2 F_impl_AgeAt_1
      simp only [Bool.cond_eq_ite, decide_eq_true_eq, h0, h1, if_true, hw, Option.bind_some]
      rfl
    · intro again i hi
      unfold S_slices_IndexFunc_n100000_2
      simp only [Bool.cond_eq_ite, decide_eq_true_eq, if_neg hi]
    · rcases ageAt_spec l id with h | ⟨h1, h2, h3⟩ <;> unfold ageAt at *
      · rw [h]
        rfl
      · rw [if_neg (by omega)]
  unfold F_impl_AgeAt
  rw [key]
  rfl
def hasI (l : List Int) (v : Int) : Bool := decide (0 ≤ findI (fun a : Int => a == v) l 0)
theorem spec_Has_eq (l : List Int) (v : Int) (hl : l.length ≤ 1073741824) : F_spec_l7Has (l, v) = some (hasI l v) := by
  unfold F_spec_l7Has L_spec_l7Has_2
  refine (find_loop (step := S_spec_l7Has_2 _ _) (fun i => (l, v, i)) (fun a : Int => a == v) (fun _ => some true) (some false) z_i64 l (by omega) ?_ ?_).trans ?_
  · intro again i h0 h1
    have hw : Go.IntKind.wrap .i64 (i + 1) = i + 1 := w64 (by omega) (by omega)
    unfold S_spec_l7Has_2
    simp only [Bool.cond_eq_ite, decide_eq_true_eq, h0, h1, if_true, hw]
    rfl
  · intro again i hi
    unfold S_spec_l7Has_2
    simp only [Bool.cond_eq_ite, decide_eq_true_eq, if_neg hi]
  · unfold hasI
    by_cases h : findI (fun a : Int => a == v) l 0 < 0
    · rw [if_pos h, decide_eq_false (by omega)]
    · rw [if_neg h, decide_eq_true (by omega)]
theorem Contains_eq (l : List Int) (v : Int) (hl : l.length ≤ 1073741824) : F_slices_Contains (l, v) = some (hasI l v) := by
  have key : F_slices_Index (l, v) = some (findI (fun a : Int => a == v) l 0) := by
    unfold F_slices_Index L_slices_Index_2
    refine (find_loop (step := S_slices_Index_2 _ _) (fun i => (l, v, (l.length : Int), i)) (fun a : Int => a == v) (fun x => some x) (some (-1)) z_i64 l (by omega) ?_ ?_).trans ?_
    · intro again i h0 h1
      have hw : Go.IntKind.wrap .i64 (i + 1) = i + 1 := w64 (by omega) (by omega)
      unfold S_slices_Index_2
      have e : (v == (rd_i64 l i)) = ((rd_i64 l i) == v) := Bool.beq_comm
      simp only [Bool.cond_eq_ite, decide_eq_true_eq, h0, h1, if_true, hw, e]
      rfl
    · intro again i hi
      unfold S_slices_Index_2
      simp only [Bool.cond_eq_ite, decide_eq_true_eq, if_neg hi]
    · rcases findI_spec (fun a : Int => a == v) z_i64 l 0 (Int.le_refl _) with h | ⟨h1, h2, h3⟩
      · rw [h]
        rfl
      · rw [if_neg (by omega)]
  unfold F_slices_Contains
  rw [key]
  rfl

/-! ### Paths -/
def pathI (l : List E_Age) : Nat → Int → List Int
  | 0, _ => []
  | n + 1, at_ => if at_ < 0 then [] else (l.getD at_.toNat z_Age).1 :: pathI l n (ageAt l (l.getD at_.toNat z_Age).2)
def pathOf (l : List E_Age) (id : Int) : List Int := pathI l (l.length + 1) (ageAt l id)
theorem pathI_pos (l : List E_Age) (n : Nat) (i : Int) (h : 0 ≤ i) : pathI l (n + 1) i = (l.getD i.toNat z_Age).1 :: pathI l n (ageAt l (l.getD i.toNat z_Age).2) := by rw [pathI, if_neg (by omega)]
theorem pathI_neg (l : List E_Age) (n : Nat) : pathI l n (-1) = [] := by cases n <;> simp [pathI]
theorem pathI_len (l : List E_Age) : ∀ (n : Nat) (i : Int), (pathI l n i).length ≤ n
  | 0, _ => by simp [pathI]
  | n + 1, i => by
    rw [pathI]
    split
    · simp
    · have := pathI_len l n (ageAt l (l.getD i.toNat z_Age).2)
      simp only [List.length_cons]
      omega
theorem spec_PathOf_eq (l : List E_Age) (id : Int) (hl : l.length ≤ 1048576) : F_spec_PathOf (l, id) = some (pathOf l id) := by
  unfold F_spec_PathOf L_spec_PathOf_3 pathOf
  rw [spec_AgeAt_eq l id (by omega), Option.bind_some]
  have key := loop_fuel (step := S_spec_PathOf_3 (fun x4 => some x4)) (fun t : T_spec_PathOf_3 => l.length + 1 - t.2.2.length) (fun t => t.1 = l ∧ t.2.2.length ≤ l.length + 1 ∧ ∃ id, t.2.1 = ageAt l id) (fun t => some (t.2.2 ++ pathI l (l.length + 1 - t.2.2.length) t.2.1)) ?_ (l, ageAt l id, []) ⟨rfl, by simp, id, rfl⟩ (by simp; omega)
  · simpa using key
  · rintro again ⟨l', at_, o⟩ ⟨hll, ho, id', hid⟩ hag
    simp only at hll ho hid
    subst hll hid
    unfold S_spec_PathOf_3
    simp only [Bool.cond_eq_ite, decide_eq_true_eq, List.length_cons, List.length_nil, Nat.zero_add]
    rcases ageAt_spec l' id' with h | ⟨h1, h2, h3⟩
    · rw [h]
      have : pathI l' (l'.length + 1 - o.length) (-1) = [] := by
        cases l'.length + 1 - o.length <;> simp [pathI]
      simp [this]
    · simp only [ge_iff_le, h1, if_true, h2]
      by_cases hlen : (o.length : Int) ≤ (l'.length : Int)
      · have e := spec_AgeAt_eq l' (rd_Age l' (ageAt l' id')).2 (by omega)
        rw [show l'.length + 1 - o.length = (l'.length - o.length) + 1 by omega, pathI_pos _ _ _ h1]
        simp only [hlen, decide_true, Option.bind_some, if_true, e]
        have hl1 : (o ++ [(rd_Age l' (ageAt l' id')).1]).length = o.length + 1 := by simp
        rw [if_pos (by omega), hag (l', ageAt l' (rd_Age l' (ageAt l' id')).2, o ++ [(rd_Age l' (ageAt l' id')).1]) ⟨rfl, by show (o ++ [(rd_Age l' (ageAt l' id')).1]).length ≤ _; omega, _, rfl⟩ (by show l'.length + 1 - (o ++ [(rd_Age l' (ageAt l' id')).1]).length < l'.length + 1 - o.length; omega)]
        simp only [hl1]
        rw [show l'.length + 1 - (o.length + 1) = l'.length - o.length by omega, List.append_assoc]
        rfl
      · rw [show l'.length + 1 - o.length = 0 by omega]
        simp [hlen, pathI]
theorem impl_PathOf_eq (l : List E_Age) (id : Int) (hl : l.length ≤ 1048576) : F_impl_PathOf (l, id) = some (pathOf l id) := by
  unfold F_impl_PathOf L_impl_PathOf_3 pathOf
  simp only
  rw [w64 (n := (l.length : Int) + 1) (by omega) (by omega)]
  have key := loop_fuel (step := S_impl_PathOf_3 (fun x2 => some x2)) (fun t : T_impl_PathOf_3 => l.length + 1 - t.2.2.2.2.length) (fun t => t.1 = l ∧ t.2.2.1 = (l.length : Int) + 1 ∧ t.2.2.2.1 = (t.2.2.2.2.length : Int) ∧ t.2.2.2.2.length ≤ l.length + 1) (fun t => some (t.2.2.2.2 ++ pathI l (l.length + 1 - t.2.2.2.2.length) (ageAt l t.2.1))) ?_ (l, id, (l.length : Int) + 1, 0, []) ⟨rfl, rfl, by simp, by simp⟩ (by simp; omega)
  · simpa using key
  · rintro again ⟨l', id', n, i, o⟩ ⟨hll, hn, hi, ho⟩ hag
    simp only at hll ho hn hi
    subst hll hn hi
    unfold S_impl_PathOf_3
    have e := impl_AgeAt_eq l' id' (by omega)
    simp only [Bool.cond_eq_ite, decide_eq_true_eq, e, Option.bind_some, List.length_cons, List.length_nil, Nat.zero_add]
    by_cases hlen : (o.length : Int) < (l'.length : Int) + 1
    · rw [if_pos hlen, show l'.length + 1 - o.length = (l'.length - o.length) + 1 by omega]
      rcases ageAt_spec l' id' with h | ⟨h1, h2, h3⟩
      · rw [h, pathI_neg]
        simp
      · have hw : Go.IntKind.wrap .i64 ((o.length : Int) + 1) = (o.length : Int) + 1 := w64 (by omega) (by omega)
        have hl1 : (o ++ [id']).length = o.length + 1 := by simp
        rw [pathI_pos _ _ _ h1, if_neg (by omega), if_pos (by omega), if_pos h1, if_pos h2, hw, hag (l', (rd_Age l' (ageAt l' id')).2, (l'.length : Int) + 1, (o.length : Int) + 1, o ++ [id']) ⟨rfl, rfl, by show _ = ((o ++ [id']).length : Int); rw [hl1]; rfl, by show (o ++ [id']).length ≤ _; omega⟩ (by show l'.length + 1 - (o ++ [id']).length < l'.length + 1 - o.length; omega), h3]
        simp only [hl1]
        rw [show l'.length + 1 - (o.length + 1) = l'.length - o.length by omega, List.append_assoc]
        rfl
    · rw [if_neg hlen, show l'.length + 1 - o.length = 0 by omega]
      simp [pathI]
end Go.Proofs.Ytmofdkmggfdciaa.Pl
